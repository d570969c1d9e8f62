/- All that is above a class, in order. -/
import Derived.Test.YtdombpcfmjlnlaaFbSyKeys
import Derived.Test.YtdombpcfmjlnlaaFbSyJ
import Derived.Test.YtdombpcfmjlnlaaFbSxHier
set_option linter.unusedVariables false
set_option linter.unusedSimpArgs false
namespace Go.Sx
open Go Go.Proofs

def KeysR (q : Nat) (out : List Str) : AEnd → AHeap → Prop := fun e H => ∃ i1, e = .ret (.fn (.func 103) [.ptr i1 1 0 0]) ∧ H = [(i1, .rows 78 1 [[.map q]]), (q, .mp (setM out))]
theorem c_keys (q : Nat) (out : List Str) : ACalls Try.prog 65 [.map q] [(q, .mp (setM out))] (KeysR q out) := by
  refine acalls_of (n := 4) Try.func65 rfl (by decide +kernel) rfl rfl ?_
  refine awp_seq ?_
  refine awp_region ?_
  refine aops_n (w0 rfl) rfl (fun id => eff_box id rfl rfl rfl rfl rfl) (fun id1 => ?_)
  refine aops_e (w0 rfl) rfl (eff_assign rfl rfl) ?_
  refine aops_nil ?_
  refine awp_seq ?_
  refine awp_region ?_
  refine aops_e (w0 rfl) rfl (eff_makeFunc rfl rfl) ?_
  refine aops_e (w0 rfl) rfl (eff_assign rfl rfl) ?_
  refine aops_nil ?_
  refine awp_ret ?_
  exact retq_keep rfl (res_tmp rfl res_nil) (.refl _) ⟨id1, rfl, rfl⟩

theorem c_appendSeqG (g : Nat) (caps : List AV) (Hit : AHeap) (Adm Fin : List Str → Prop) (hx : ∀ l, Adm l → l.length ≤ 1000) (hseq : SeqG Try.prog g caps Hit (fun s : Str => [sA s]) Adm Fin) :
    ACalls Try.prog 101 [.v (.slice none 0 0), .fn (.func g) caps] Hit (GP (fun r : Nat × List Str => .own r.1 1 0 r.2.length) (fun r => [(r.1, .rows 9 1 (r.2.map fun x => [sA x]))]) (fun r => Fin r.2)) := by
  refine acalls_of (n := 13) Try.func101 rfl (by decide +kernel) rfl rfl ?_
  refine awp_seq ?_
  refine awp_region ?_
  refine aops_n (w0 rfl) rfl (fun id => eff_box id rfl rfl rfl rfl rfl) (fun id1 => ?_)
  refine aops_e (w0 rfl) rfl (eff_assign rfl rfl) ?_
  refine aops_nil ?_
  refine awp_seq ?_
  refine awp_seq ?_
  refine awp_nilcell 0 (qe := 9) (qs := 1) rfl (fun idq => ?_)
  refine awp_region ?_
  refine aops_e (w0 rfl) rfl (eff_move rfl rfl) ?_
  refine aops_nil ?_
  refine awp_block ?_
  refine awp_rangeFuncG (fun s : Str => [sA s]) Adm Fin Hit [_, _] (fun pre Hb => ∃ q, Hb = [(q, .rows 9 1 (pre.map fun x => [sA x])), (id1, .rows 22 1 [[.own q 1 0 pre.length]])]) (fun _ _ _ => False) rfl (List.perm_append_comm (l₁ := [_, _])) ⟨idq, rfl⟩ (hseq) (fun _ => rfl) (lts rfl) ?_ ?_ ?_
  · rintro l pre z Hb hA ⟨q, rfl⟩
    have hlz : pre.length < 1001 := by have := hx _ hA; simp at this; omega
    refine awp_region ?_
    refine aops_e (w0 rfl) rfl (eff_assign rfl rfl) ?_
    refine aops_nil ?_
    refine ⟨rfl, ?_⟩
    refine awp_block ?_
    refine awp_region ?_
    refine aops_load_ptr 1 (w0 rfl) rfl rfl rfl rfl rfl ld_one ?_
    refine aops_e (w0 rfl) rfl (eff_move rfl rfl) ?_
    refine aops_n (w0 rfl) rfl (fun id => eff_buildSlice id (ps := [(0, .tmp 9)]) rfl rfl rfl rfl rfl rfl rfl rfl) (fun id2 => ?_)
    refine aops_append 1 (w0 rfl) rfl rfl rfl rfl (by simp) rfl ⟨rfl, _, _, List.mem_of_getElem? (i := 0) rfl, by simp, rfl⟩ (by first | omega | (simp; omega) | (simp [maxLen]; omega) | (simp; done) | (simp [maxLen]; done)) (by first | omega | (simp; omega) | (simp [maxLen]; omega) | (simp; done) | (simp [maxLen]; done)) (fun id3 => ?_)
    refine aops_store 2 (w0 rfl) rfl rfl rfl rfl rfl rfl rfl rfl rfl ?_
    refine aops_nil ?_
    exact ⟨⟨[], [_, _], [], 13⟩, weak_pick [1, 2] trivial rfl (by decide) rfl rfl, id3, by show [(_, AObj.rows _ _ _), (_, AObj.rows _ _ _)] = [(_, AObj.rows _ _ _), (_, AObj.rows _ _ _)]; simp [cellsA]⟩
  · rintro im ll Hb hfl ⟨q, rfl⟩
    refine awp_seq ?_
    refine awp_region ?_
    refine aops_load_ptr 1 (w0 rfl) rfl rfl rfl rfl rfl ld_one ?_
    refine aops_e (w0 rfl) rfl (eff_assign rfl rfl) ?_
    refine aops_nil ?_
    refine awp_ret ?_
    exact retq1 (F := [_, _]) rfl rfl (res_tmp rfl res_nil) (.cons_cons _ (.cons _ .slnil)) (gp (q, ll) hfl rfl rfl)
  · intro i c pre Hb h; exact h.elim

theorem c_collectG (g : Nat) (caps : List AV) (Hit : AHeap) (Adm Fin : List Str → Prop) (hx : ∀ l, Adm l → l.length ≤ 1000) (hseq : SeqG Try.prog g caps Hit (fun s : Str => [sA s]) Adm Fin) :
    ACalls Try.prog 61 [.fn (.func g) caps] Hit (GP (fun r : Nat × List Str => .own r.1 1 0 r.2.length) (fun r => [(r.1, .rows 9 1 (r.2.map fun x => [sA x]))]) (fun r => Fin r.2)) := by
  refine acalls_of (n := 5) Try.func61 rfl (by decide +kernel) rfl rfl ?_
  refine awp_seq ?_
  refine awp_region ?_
  refine aops_e (w0 rfl) rfl (eff_assign rfl rfl) ?_
  refine aops_nil ?_
  refine awp_seq ?_
  refine awp_region ?_
  refine aops_e (w0 rfl) rfl (eff_move rfl rfl) ?_
  refine aops_callP Hit [] (w0 rfl) rfl rfl rfl rfl (by simp) (c_appendSeqG g caps Hit Adm Fin hx hseq) (fun r hr => ?_)
  refine aops_e (w0 rfl) rfl (eff_assign rfl rfl) ?_
  refine aops_nil ?_
  refine awp_ret ?_
  exact retq_keep rfl (res_tmp rfl res_nil) (.refl _) (gp r hr rfl rfl)

theorem c_sortedG (g : Nat) (caps : List AV) (Hit : AHeap) (Adm Fin : List Str → Prop) (hx : ∀ l, Adm l → l.length ≤ 1000) (hf : ∀ l, Fin l → l.length ≤ 1000) (hseq : SeqG Try.prog g caps Hit (fun s : Str => [sA s]) Adm Fin) :
    ACalls Try.prog 64 [.fn (.func g) caps] Hit (GSome (row1 sA) (fun m => ∃ l, Fin l ∧ m.Perm l ∧ SOn ltS 0 m.length m)) := by
  refine acalls_of (n := 9) Try.func64 rfl (by decide +kernel) rfl rfl ?_
  refine awp_seq ?_
  refine awp_region ?_
  refine aops_e (w0 rfl) rfl (eff_assign rfl rfl) ?_
  refine aops_nil ?_
  refine awp_seq ?_
  refine awp_region ?_
  refine aops_e (w0 rfl) rfl (eff_move rfl rfl) ?_
  refine aops_callP Hit [] (w0 rfl) rfl rfl rfl rfl (by simp) (c_collectG g caps Hit Adm Fin hx hseq) (fun r hr => ?_)
  refine aops_e (w0 rfl) rfl (eff_assign rfl rfl) ?_
  refine aops_nil ?_
  have hlen := hf _ hr
  refine awp_seq ?_
  refine awp_region ?_
  refine aops_e (w0 rfl) rfl (eff_move rfl rfl) ?_
  refine aops_callP [_] _ (w0 rfl) rfl rfl rfl rfl (perm_get (k := 0) rfl) (c_sort r.1 r.2.length r.2 rfl (by omega)) (fun m hm => ?_)
  refine aops_nil ?_
  have hml := hm.1.length_eq
  refine awp_weak (weak_frz 0 3 (T' := []) rfl rfl (by simp [hml]) trivial) ?_
  refine awp_seq ?_
  refine awp_region ?_
  refine aops_e (w0 rfl) rfl (eff_move rfl rfl) ?_
  refine aops_e (w0 rfl) rfl (eff_assign rfl rfl) ?_
  refine aops_nil ?_
  refine awp_ret ?_
  exact retq_keep rfl (res_tmp rfl res_nil) (List.nil_sublist _) (gsome m ⟨r.2, hr, hm.1, by rw [hml]; exact hm.2⟩ rfl)

theorem c_ancs (p : Prog) (hb : p.classes.length ≤ 1000) (hif : ∀ c, c ∈ p.classes → c.ifaces.length ≤ 1000) (nm : Str) : ACalls Try.prog 30 [p.av, sA nm] [] (Gives (row1 sA (ancL p nm))) := by
  refine acalls_of (n := 10) Try.func30 rfl (by decide +kernel) rfl rfl ?_
  refine awp_seq ?_
  refine awp_region ?_
  refine aops_n (w0 rfl) rfl (fun id => eff_box id rfl rfl rfl rfl rfl) (fun id1 => ?_)
  refine aops_e (w0 rfl) rfl (eff_assign rfl rfl) ?_
  refine aops_nil ?_
  refine awp_seq ?_
  refine awp_region ?_
  refine aops_load_ptr 0 (w0 rfl) rfl rfl rfl rfl rfl (ld_agg (Nat.le_of_ble_eq_true rfl)) ?_
  refine aops_e (w0 rfl) rfl (eff_move rfl rfl) ?_
  refine aops_callA [] _ (w0 rfl) rfl rfl rfl rfl (.refl _) (c_ancestors p hb hif nm) (fun ch H' hR => by obtain ⟨_, _, h, _⟩ := hR; cases h) (fun y Hy hR => ?_)
  obtain ⟨q, out, hR, rfl, hnd, hol, hmem⟩ := hR
  cases hR
  refine aops_callA [_] _ (w0 rfl) rfl rfl rfl rfl (.refl _) (c_keys q out) (fun ch H' hR => by obtain ⟨_, h, _⟩ := hR; cases h) (fun y Hy hR => ?_)
  obtain ⟨i1, hR, rfl⟩ := hR
  cases hR
  refine aops_callA [_, _] _ (w0 rfl) rfl rfl rfl rfl (.refl _) (c_sortedG 103 [.ptr i1 1 0 0] _ (AdmS out) (FinS out) (fun l hl => by have := hl.len; omega) (fun l hl => by have := hl.length_eq; omega) (c_keysFn out hnd i1 q)) (fun ch H' hR => by obtain ⟨_, _, h, _⟩ := hR; cases h) (fun y Hy hR => ?_)
  obtain ⟨m, ⟨l, hl, hp, hs⟩, hR, rfl⟩ := hR
  cases hR
  refine aops_e (w0 rfl) rfl (eff_assign rfl rfl) ?_
  refine aops_nil ?_
  refine awp_ret ?_
  exact retq rfl (res_tmp rfl res_nil) (gvr (by rw [ris_of_srt (hp.trans hl) hnd hs (fun s => Iff.rfl), ancL_of hmem]; rfl))

theorem c_refAncs (p : Prog) (hb : p.classes.length ≤ 1000) (hif : ∀ c, c ∈ p.classes → c.ifaces.length ≤ 1000) (nm : Str) : ACalls Try.prog 31 [p.av, sA nm] [] (Gives (row1 sA (ancL p nm))) :=
  (c_refAnc p hb hif nm).mono fun e H ⟨l, ⟨out, h1, h2, _⟩, h3, h4⟩ => ⟨by rw [h3, h1, ancL_of h2], h4⟩
end Go.Sx
