/- Pools written; the fixed calls of their laws. -/
import Derived.Test.YtdombpcfmjlnlaaSyPool
import Derived.Test.YtdombpcfmjlnlaaSxBytes
set_option linter.unusedVariables false
set_option linter.unusedSimpArgs false
namespace Go.Sx
open Go Go.Proofs

theorem c_put7 (n : Nat) (hn : n < 128) : ACalls Try.prog 98 [xA n] [] (GP (fun r : Nat × List (List AV) => .own r.1 1 0 r.2.length) (fun r => [(r.1, .rows 5 1 r.2)]) (fun r => r.2.length = 1)) := by
  refine acalls_of (n := 34) Try.func98 rfl (by decide +kernel) rfl rfl ?_
  refine awp_seq ?_
  refine awp_region ?_
  refine aops_e (w0 rfl) rfl (eff_assign rfl rfl) ?_
  refine aops_nil ?_
  refine awp_seq ?_
  refine awp_region ?_
  refine aops_n (w0 rfl) rfl (fun id => eff_alloc id rfl rfl rfl) (fun id1 => ?_)
  refine aops_nil ?_
  refine awp_seq ?_
  refine awp_region ?_
  refine aops_e (w0 rfl) rfl (eff_assign rfl rfl) ?_
  refine aops_nil ?_
  refine awp_seq ?_
  refine awp_seq ?_
  refine awp_region ?_
  refine aops_e (w0 rfl) rfl (eff_move rfl rfl) ?_
  refine aops_nil ?_
  refine awp_block ?_
  refine awp_loopJ (α := Unit) (fun _ => ⟨[(0, xA n), (3, .ptr id1 10 0 0), (4, iA 0), (7, iA 0)], [(id1, .rows 138 10 [[uA 0, uA 0, uA 0, uA 0, uA 0, uA 0, uA 0, uA 0, uA 0, uA 0]])], [], 34⟩) (fun _ => True) (fun _ => 0) () trivial ?_ ?_
  · exact weak_pick [0] ⟨rfl, rfl, rfl, rfl, trivial⟩ rfl (by decide) rfl rfl
  rintro _ hJ
  refine awp_seq ?_
  refine awp_region ?_
  refine aops_e (w0 rfl) rfl (eff_icmp rfl rfl rfl rfl) ?_
  refine aops_nil ?_
  refine awp_seq ?_
  refine awp_cond rfl ?_ ?_
  · intro hc
    refine awp_skip ?_
    refine awp_seq ?_
    refine awp_block ?_
    refine awp_seq ?_
    refine awp_region ?_
    refine aops_e (w0 rfl) rfl (eff_move rfl rfl) ?_
    refine aops_e (w0 rfl) rfl (eff_assign rfl rfl) ?_
    refine aops_nil ?_
    refine awp_seq ?_
    refine awp_region ?_
    refine aops_e (w0 rfl) rfl (eff_move rfl rfl) ?_
    refine aops_e (w0 rfl) rfl (eff_move rfl rfl) ?_
    refine aops_e (w0 rfl) rfl (eff_convInt rfl rfl) ?_
    refine aops_e (w0 rfl) rfl (eff_bits rfl (by simp) rfl rfl) ?_
    refine aops_e (w0 rfl) rfl (eff_indexAddr_arr rfl rfl rfl (by first | omega | (simp only [List.length_map]; omega)) (by first | omega | (simp only [List.length_map]; omega)) rfl) ?_
    refine aops_store 0 (w0 rfl) rfl rfl rfl rfl rfl rfl rfl rfl rfl ?_
    refine aops_nil ?_
    refine awp_seq ?_
    refine awp_region ?_
    refine aops_e (w0 rfl) rfl (eff_move rfl rfl) ?_
    refine aops_e (w0 rfl) rfl (eff_to (y := iA 1) (eff_arith rfl rfl rfl (arith_add (by first | omega | (simp only [List.length_map]; omega)))) (rfl)) ?_
    refine aops_e (w0 rfl) rfl (eff_assign rfl rfl) ?_
    refine aops_nil ?_
    refine awp_seq ?_
    refine awp_region ?_
    refine aops_e (w0 rfl) rfl (eff_move rfl rfl) ?_
    refine aops_e (w0 rfl) rfl (eff_to (y := xA (n / 2 ^ 7 : Nat)) (eff_shr rfl rfl rfl (by decide)) (congrArg xA (shrN n 7 (by decide)))) ?_
    refine aops_e (w0 rfl) rfl (eff_assign rfl rfl) ?_
    refine aops_nil ?_
    refine awp_seq ?_
    refine awp_region ?_
    refine aops_e (w0 rfl) rfl (eff_move rfl rfl) ?_
    refine aops_e (w0 rfl) rfl (eff_icmp rfl rfl rfl rfl) ?_
    refine aops_nil ?_
    refine awp_cond rfl ?_ ?_
    · intro hc
      refine awp_seq ?_
      refine awp_region ?_
      refine aops_e (w0 rfl) rfl (eff_move rfl rfl) ?_
      refine aops_e (w0 rfl) rfl (eff_indexAddr_arr rfl rfl rfl (by first | omega | (simp only [List.length_map]; omega)) (by first | omega | (simp only [List.length_map]; omega)) rfl) ?_
      refine aops_load_ptr 0 (w0 rfl) rfl rfl rfl rfl rfl ld_one ?_
      refine aops_e (w0 rfl) rfl (eff_andNot rfl rfl rfl) ?_
      refine aops_e (w0 rfl) rfl (eff_indexAddr_arr rfl rfl rfl (by first | omega | (simp only [List.length_map]; omega)) (by first | omega | (simp only [List.length_map]; omega)) rfl) ?_
      refine aops_store 0 (w0 rfl) rfl rfl rfl rfl rfl rfl rfl rfl rfl ?_
      refine aops_nil ?_
      refine awp_exit ?_
      refine awp_seq ?_
      refine awp_region ?_
      refine aops_e (w0 rfl) rfl (eff_move rfl rfl) ?_
      refine aops_n (w0 rfl) rfl (fun id => eff_makeSlice1 id 1 rfl rfl rfl (by first | omega | (simp; omega) | (simp [maxLen]; omega) | (simp; done) | (simp [maxLen]; done)) (by first | omega | (simp; omega) | (simp [maxLen]; omega) | (simp; done) | (simp [maxLen]; done)) rfl) (fun id2 => ?_)
      refine aops_e (w0 rfl) rfl (eff_assign rfl rfl) ?_
      refine aops_nil ?_
      refine awp_seq ?_
      refine awp_region ?_
      refine aops_e (w0 rfl) rfl (eff_move rfl rfl) ?_
      refine aops_e (w0 rfl) rfl (eff_move rfl rfl) ?_
      refine aops_sliceArrF 1 (w0 rfl) rfl rfl rfl rfl rfl (by first | omega | (simp only [List.length_map]; omega)) (by first | omega | (simp only [List.length_map]; omega)) ?_
      refine aops_copyL 0 (w0 rfl) rfl rfl rfl rfl (by first | omega | (simp; omega) | (simp [maxLen]; omega) | (simp; done) | (simp [maxLen]; done)) rfl ⟨rfl, len_map (fun _ => rfl)⟩ (by first | omega | (simp; omega) | (simp [maxLen]; omega) | (simp; done) | (simp [maxLen]; done)) (by first | omega | (simp; omega) | (simp [maxLen]; omega) | (simp; done) | (simp [maxLen]; done)) ?_
      refine aops_nil ?_
      refine awp_seq ?_
      refine awp_region ?_
      refine aops_e (w0 rfl) rfl (eff_move rfl rfl) ?_
      refine aops_e (w0 rfl) rfl (eff_assign rfl rfl) ?_
      refine aops_nil ?_
      refine awp_ret ?_
      exact retq_keep rfl (res_tmp rfl res_nil) (.cons_cons _ .slnil) (gp (id2, _) rfl rfl rfl)
    · intro hc
      exfalso; have h0 : n / 2 ^ 7 = 0 := Nat.div_eq_of_lt hn
      rw [h0] at hc; simp at hc
  · intro hc
    exfalso; simp at hc

theorem c_wtext (x : Str) (hx : x.size < 128) : ACalls Try.prog 99 [sA x] [] (GP (fun r : Nat × List (List AV) => .own r.1 1 0 r.2.length) (fun r => [(r.1, .rows 5 1 r.2)]) (fun r => r.2.length = x.size + 1)) := by
  refine acalls_of (n := 9) Try.func99 rfl (by decide +kernel) rfl rfl ?_
  refine awp_seq ?_
  refine awp_region ?_
  refine aops_e (w0 rfl) rfl (eff_assign rfl rfl) ?_
  refine aops_nil ?_
  refine awp_seq ?_
  refine awp_region ?_
  refine aops_e (w0 rfl) rfl (eff_move rfl rfl) ?_
  refine aops_e (w0 rfl) rfl (eff_len rfl rfl rfl rfl) ?_
  refine aops_e (w0 rfl) rfl (eff_to (y := xA x.size) (eff_convInt rfl rfl) (congrArg xA (u64_wrap (by omega)))) ?_
  refine aops_callP [] _ (w0 rfl) rfl rfl rfl rfl (.refl _) (c_put7 x.size hx) (fun v1 hv1 => ?_)
  refine aops_e (w0 rfl) rfl (eff_move rfl rfl) ?_
  refine aops_appendS 0 (w0 rfl) rfl rfl rfl rfl rfl rfl (by rw [hv1]; omega) (by rw [hv1]; simp [maxLen]; omega) (fun id2 => ?_)
  refine aops_e (w0 rfl) rfl (eff_assign rfl rfl) ?_
  refine aops_nil ?_
  refine awp_ret ?_
  exact retq_keep rfl (res_tmp rfl res_nil) (.cons_cons _ .slnil) (gp (id2, _) (by simp [byteRows_len, hv1]; omega) (by simp [byteRows_len]; rfl) rfl)

theorem sla_own {H : AHeap} {id el sz len : Nat} {es : List (List AV)} (k : Nat) (h : H[k]? = some (id, .rows el sz es)) (hl : len = es.length) : SlA H sz (.own id sz 0 len) es := ⟨rfl, el, es, List.mem_of_getElem? h, by omega, by simp [hl]⟩
def putSum (l : List Str) : Nat := (l.map fun x => x.size + 1).sum
theorem putSum_take {l : List Str} {i : Nat} (h : i < l.length) : putSum (l.take (i + 1)) = putSum (l.take i) + (l[i].size + 1) := by
  unfold putSum; rw [take_snoc h, List.map_append, List.sum_append, List.map_cons, List.map_nil, List.sum_cons, List.sum_nil, Nat.add_zero]
theorem putSum_le {l : List Str} (h : ∀ x, x ∈ l → x.size < 128) : putSum l ≤ 128 * l.length := by
  induction l with
  | nil => simp [putSum]
  | cons x r ih =>
    have h1 := ih (fun y hy => h y (List.mem_cons_of_mem _ hy))
    have h2 := h x List.mem_cons_self
    unfold putSum at h1 ⊢
    simp only [List.map_cons, List.sum_cons, List.length_cons]
    omega

theorem c_putNo (l : List Str) (hl : small l.length) (hr : rightL l = false) : ACalls Try.prog 58 [row1 sA l] [] (Gives (.tup [.v (.slice none 0 0), iA 5])) := by
  refine acalls_of (n := 26) Try.func58 rfl (by decide +kernel) rfl rfl ?_
  refine awp_seq ?_
  refine awp_region ?_
  refine aops_e (w0 rfl) rfl (eff_assign rfl rfl) ?_
  refine aops_e (w0 rfl) rfl (eff_assign rfl rfl) ?_
  refine aops_nil ?_
  refine awp_seq ?_
  refine awp_seq ?_
  refine awp_region ?_
  refine aops_e (w0 rfl) rfl (eff_move rfl rfl) ?_
  refine aops_e (w0 rfl) rfl (eff_call [] rfl rfl rfl (c_rightL l hl) List.nodup_nil) ?_
  refine aops_e (w0 rfl) rfl (eff_not rfl rfl) ?_
  refine aops_nil ?_
  refine awp_cond rfl ?_ ?_
  · intro hc
    refine awp_seq ?_
    refine awp_region ?_
    refine aops_e (w0 rfl) rfl (eff_assign rfl rfl) ?_
    refine aops_e (w0 rfl) rfl (eff_assign rfl rfl) ?_
    refine aops_nil ?_
    refine awp_ret ?_
    exact retq rfl (res_tmp rfl (res_tmp rfl res_nil)) (gvr rfl)
  · intro hc
    exfalso
    rw [hr] at hc; simp at hc

theorem c_put (l : List Str) (hl : l.length < 128) (hs : ∀ x, x ∈ l → x.size < 128) (hr : rightL l = true) : ACalls Try.prog 58 [row1 sA l] [] (GSome (fun ys : List (List AV) => .tup [.lst ys, iA 0]) (fun ys => ys.length = 1 + putSum l)) := by
  refine acalls_of (n := 26) Try.func58 rfl (by decide +kernel) rfl rfl ?_
  refine awp_seq ?_
  refine awp_region ?_
  refine aops_e (w0 rfl) rfl (eff_assign rfl rfl) ?_
  refine aops_e (w0 rfl) rfl (eff_assign rfl rfl) ?_
  refine aops_nil ?_
  refine awp_seq ?_
  refine awp_seq ?_
  refine awp_region ?_
  refine aops_e (w0 rfl) rfl (eff_move rfl rfl) ?_
  refine aops_e (w0 rfl) rfl (eff_call [] rfl rfl rfl (c_rightL l (by unfold small; omega)) List.nodup_nil) ?_
  refine aops_e (w0 rfl) rfl (eff_not rfl rfl) ?_
  refine aops_nil ?_
  refine awp_cond rfl ?_ ?_
  · intro hc
    exfalso
    rw [hr] at hc; simp at hc
  · intro hc
    refine awp_skip ?_
    refine awp_seq ?_
    refine awp_region ?_
    refine aops_e (w0 rfl) rfl (eff_move rfl rfl) ?_
    refine aops_e (w0 rfl) rfl (eff_len rfl rfl rfl rfl) ?_
    refine aops_e (w0 rfl) rfl (eff_to (y := xA l.length) (eff_convInt rfl rfl) ((by show AV.v (.int .u64 (IntKind.u64.wrap _)) = _; rw [List.length_map]; exact congrArg xA (u64_wrap (by omega))))) ?_
    refine aops_callP [] _ (w0 rfl) rfl rfl rfl rfl (.refl _) (c_put7 l.length hl) (fun v1 hv1 => ?_)
    refine aops_e (w0 rfl) rfl (eff_assign rfl rfl) ?_
    refine aops_nil ?_
    refine awp_seq ?_
    refine awp_seq ?_
    refine awp_region ?_
    refine aops_e (w0 rfl) rfl (eff_move rfl rfl) ?_
    refine aops_e (w0 rfl) rfl (eff_len rfl rfl rfl rfl) ?_
    refine aops_e (w0 rfl) rfl (eff_move rfl rfl) ?_
    refine aops_nil ?_
    refine awp_block ?_
    refine awp_loopJ (α := (Nat × List (List AV)) × Nat) (fun x => ⟨[(16, iA x.2), (14, row1 sA l), (15, iA l.length), (4, .own x.1.1 1 0 x.1.2.length)], [(x.1.1, .rows 5 1 x.1.2)], [], 26⟩) (fun x => x.2 ≤ l.length ∧ x.1.2.length = 1 + putSum (l.take x.2)) (fun x => l.length - x.2) (v1, 0) ⟨Nat.zero_le _, hv1⟩ ?_ ?_
    · exact weak_pick [0] ⟨rfl, rfl, (by show some (iA _) = some (iA _); simp), rfl, trivial⟩ rfl (by decide) rfl rfl
    rintro x hJ
    have hb := putSum_le (l := l.take x.2) (fun y hy => hs y (List.mem_of_mem_take hy))
    rw [List.length_take] at hb
    refine awp_seq ?_
    refine awp_region ?_
    refine aops_e (w0 rfl) rfl (eff_icmp rfl rfl rfl rfl) ?_
    refine aops_nil ?_
    refine awp_seq ?_
    refine awp_cond rfl ?_ ?_
    · intro hc
      have hi : x.2 < l.length := by simpa using hc
      refine awp_skip ?_
      refine awp_seq ?_
      refine awp_block ?_
      refine awp_seq ?_
      refine awp_region ?_
      refine aops_e (w0 rfl) rfl (eff_indexAddr_lst rfl rfl rfl (len_map (fun _ => rfl)) (by first | omega | (simp only [List.length_map]; omega)) (by first | omega | (simp only [List.length_map]; omega))) ?_
      refine aops_e (w0 rfl) rfl (eff_loadE rfl rfl (map_get (by first | assumption | omega)) ld_one) ?_
      refine aops_e (w0 rfl) rfl (eff_assign rfl rfl) ?_
      refine aops_nil ?_
      refine awp_region ?_
      refine aops_e (w0 rfl) rfl (eff_move rfl rfl) ?_
      refine aops_e (w0 rfl) rfl (eff_move rfl rfl) ?_
      refine aops_callP [] _ (w0 rfl) rfl rfl rfl rfl (.refl _) (c_wtext (l[x.2]) (hs _ (List.getElem_mem hi))) (fun v2 hv2 => ?_)
      refine aops_append 1 (w0 rfl) rfl rfl rfl rfl rfl rfl (sla_own 0 rfl rfl) (by rw [hJ.2, hv2]; have := hs _ (List.getElem_mem hi); omega) (by rw [hJ.2, hv2]; have := hs _ (List.getElem_mem hi); simp [maxLen]; omega) (fun id3 => ?_)
      refine aops_e (w0 rfl) rfl (eff_assign rfl rfl) ?_
      refine aops_nil ?_
      refine awp_region ?_
      refine aops_e (w0 rfl) rfl (eff_arith rfl rfl rfl (arith_add (by first | omega | (simp only [List.length_map]; omega)))) ?_
      refine aops_e (w0 rfl) rfl (eff_move rfl rfl) ?_
      refine aops_nil ?_
      refine ⟨((id3, x.1.2 ++ v2.2), x.2 + 1), ⟨by show x.2 + 1 ≤ l.length; omega, by show (x.1.2 ++ v2.2).length = 1 + putSum (l.take (x.2 + 1)); rw [putSum_take hi, List.length_append, hJ.2, hv2]; omega⟩, (by show l.length - (x.2 + 1) < l.length - x.2; omega), ?_⟩
      exact weak_pick [1] ⟨rfl, rfl, rfl, (by show some (AV.own _ _ _ _) = some (AV.own _ _ _ _); rw [List.length_append]), trivial⟩ rfl (by decide) rfl rfl
    · intro hc
      have hi : ¬ x.2 < l.length := by simpa using hc
      refine awp_exit ?_
      refine awp_seq ?_
      refine awp_weak (weak_frz 0 4 (T' := []) rfl rfl rfl trivial) ?_
      refine awp_region ?_
      refine aops_e (w0 rfl) rfl (eff_move rfl rfl) ?_
      refine aops_e (w0 rfl) rfl (eff_assign rfl rfl) ?_
      refine aops_e (w0 rfl) rfl (eff_assign rfl rfl) ?_
      refine aops_nil ?_
      refine awp_ret ?_
      exact retq rfl (res_tmp rfl (res_tmp rfl res_nil)) (gsome x.1.2 (by rw [hJ.2, List.take_of_length_le (by omega)]) rfl)

abbrev tA : Str := ⟨#[97]⟩
abbrev tB : Str := ⟨#[98]⟩
abbrev tC : Str := ⟨#[99]⟩
theorem c_findX (l : List Str) (hl : small l.length) (s : Str) {k : Int} (h : findL l s = k) : ACalls Try.prog 17 [row1 sA l, sA s] [] (Gives (iA k)) := h ▸ c_findL l hl s
theorem c_makeX (l : List Str) (hl : l.length ≤ 100000) {m : List Str} {e : Int} (h : makeP l = (m, e)) : ACalls Try.prog 15 [row1 sA l] [] (Gives (.tup [row1 sA m, iA e])) := by have := c_make l hl; rw [h] at this; exact this
theorem c_rightX (l : List Str) (hl : small l.length) {b : Bool} (h : rightL l = b) : ACalls Try.prog 22 [row1 sA l] [] (Gives (bA b)) := h ▸ c_rightL l hl
theorem c_sameX (a b : List Str) (ha : small a.length) {c : Bool} (h : sameT a b = c) : ACalls Try.prog 18 [row1 sA a, row1 sA b] [] (Gives (bA c)) := h ▸ c_sameT a b ha
theorem mk_bab : makeP [tB, tA, tB] = ([tA, tB], 0) := by decide +kernel
theorem nr_ba : rightL [tB, tA] = false := by decide +kernel
theorem r_ab : rightL [tA, tB] = true := by decide +kernel
theorem f_b : findL [tA, tB] tB = 1 := by decide +kernel
theorem f_c : findL [tA, tB] tC = -1 := by decide +kernel
theorem s_ab : sameT [tA, tB] [tA, tB] = true := by decide +kernel
theorem lt_ab : ∀ x, x ∈ [tA, tB] → x.size < 128 := by intro x hx; simp only [List.mem_cons, List.not_mem_nil, or_false] at hx; rcases hx with rfl | rfl <;> decide

theorem c_live5  : ACalls Try.prog 16 [] [] (Gives (bA true)) := by
  refine acalls_of (n := 56) Try.func16 rfl (by decide +kernel) rfl rfl ?_
  refine awp_seq ?_
  refine awp_region ?_
  refine aops_e (w0 rfl) rfl (eff_assign rfl rfl) ?_
  refine aops_nil ?_
  refine awp_seq ?_
  refine awp_region ?_
  refine aops_e (w0 rfl) rfl (eff_frz (es := _) (fun id => eff_buildSlice id (ps := [(0, .const (Value.string ⟨#[98]⟩)), (1, .const (Value.string ⟨#[97]⟩)), (2, .const (Value.string ⟨#[98]⟩))]) rfl rfl rfl rfl rfl rfl rfl rfl) rfl) ?_
  refine aops_e (w0 rfl) rfl (eff_call [] rfl rfl rfl (c_makeX [tB, tA, tB] (by decide) mk_bab) List.nodup_nil) ?_
  refine aops_e (w0 rfl) rfl (eff_move rfl rfl) ?_
  refine aops_e (w0 rfl) rfl (eff_extract rfl rfl rfl) ?_
  refine aops_e (w0 rfl) rfl (eff_extract rfl rfl rfl) ?_
  refine aops_e (w0 rfl) rfl (eff_assign rfl rfl) ?_
  refine aops_e (w0 rfl) rfl (eff_assign rfl rfl) ?_
  refine aops_nil ?_
  refine awp_seq ?_
  refine awp_region ?_
  refine aops_e (w0 rfl) rfl (eff_frz (es := _) (fun id => eff_buildSlice id (ps := [(0, .const (Value.string ⟨#[98]⟩)), (1, .const (Value.string ⟨#[97]⟩))]) rfl rfl rfl rfl rfl rfl rfl rfl) rfl) ?_
  refine aops_e (w0 rfl) rfl (eff_call [] rfl rfl rfl (c_putNo [tB, tA] (by unfold small; decide) nr_ba) List.nodup_nil) ?_
  refine aops_e (w0 rfl) rfl (eff_move rfl rfl) ?_
  refine aops_e (w0 rfl) rfl (eff_extract rfl rfl rfl) ?_
  refine aops_e (w0 rfl) rfl (eff_extract rfl rfl rfl) ?_
  refine aops_e (w0 rfl) rfl (eff_assign rfl rfl) ?_
  refine aops_e (w0 rfl) rfl (eff_assign rfl rfl) ?_
  refine aops_nil ?_
  refine awp_seq ?_
  refine awp_region ?_
  refine aops_e (w0 rfl) rfl (eff_move rfl rfl) ?_
  refine aops_callS (w0 rfl) rfl rfl rfl rfl (c_put [tA, tB] (by decide) lt_ab r_ab) (fun v1 hv1 => ?_)
  refine aops_e (w0 rfl) rfl (eff_move rfl rfl) ?_
  refine aops_e (w0 rfl) rfl (eff_extract rfl rfl rfl) ?_
  refine aops_e (w0 rfl) rfl (eff_extract rfl rfl rfl) ?_
  refine aops_e (w0 rfl) rfl (eff_assign rfl rfl) ?_
  refine aops_e (w0 rfl) rfl (eff_assign rfl rfl) ?_
  refine aops_nil ?_
  refine awp_seq ?_
  refine awp_region ?_
  refine aops_e (w0 rfl) rfl (eff_move rfl rfl) ?_
  refine aops_e (w0 rfl) rfl (eff_to (y := bA true) (eff_icmp rfl rfl rfl rfl) (congrArg bA (by decide +kernel))) ?_
  refine aops_e (w0 rfl) rfl (eff_move rfl rfl) ?_
  refine aops_e (wT (d := true) rfl rfl rfl rfl) rfl (eff_move rfl rfl) ?_
  refine aops_e (wT (d := true) rfl rfl rfl rfl) rfl (eff_frz (es := _) (fun id => eff_buildSlice id (ps := [(0, .const (Value.string ⟨#[97]⟩)), (1, .const (Value.string ⟨#[98]⟩))]) rfl rfl rfl rfl rfl rfl rfl rfl) rfl) ?_
  refine aops_e (wT (d := true) rfl rfl rfl rfl) rfl (eff_call [] rfl rfl rfl (c_sameX [tA, tB] [tA, tB] (by unfold small; decide) s_ab) List.nodup_nil) ?_
  refine aops_e (w0 rfl) rfl (eff_to (y := bA true) (eff_pick (t := true) rfl rfl rfl rfl) rfl) ?_
  refine aops_e (w0 rfl) rfl (eff_move rfl rfl) ?_
  refine aops_e (wT (d := true) rfl rfl rfl rfl) rfl (eff_move rfl rfl) ?_
  refine aops_e (wT (d := true) rfl rfl rfl rfl) rfl (eff_call [] rfl rfl rfl (c_rightX [tA, tB] (by unfold small; decide) r_ab) List.nodup_nil) ?_
  refine aops_e (w0 rfl) rfl (eff_to (y := bA true) (eff_pick (t := true) rfl rfl rfl rfl) rfl) ?_
  refine aops_e (w0 rfl) rfl (eff_move rfl rfl) ?_
  refine aops_e (wT (d := true) rfl rfl rfl rfl) rfl (eff_move rfl rfl) ?_
  refine aops_e (wT (d := true) rfl rfl rfl rfl) rfl (eff_call [] rfl rfl rfl (c_findX [tA, tB] (by unfold small; decide) tB f_b) List.nodup_nil) ?_
  refine aops_e (wT (d := true) rfl rfl rfl rfl) rfl (eff_to (y := bA true) (eff_icmp rfl rfl rfl rfl) (congrArg bA (by decide +kernel))) ?_
  refine aops_e (w0 rfl) rfl (eff_to (y := bA true) (eff_pick (t := true) rfl rfl rfl rfl) rfl) ?_
  refine aops_e (w0 rfl) rfl (eff_move rfl rfl) ?_
  refine aops_e (wT (d := true) rfl rfl rfl rfl) rfl (eff_move rfl rfl) ?_
  refine aops_e (wT (d := true) rfl rfl rfl rfl) rfl (eff_call [] rfl rfl rfl (c_findX [tA, tB] (by unfold small; decide) tC f_c) List.nodup_nil) ?_
  refine aops_e (wT (d := true) rfl rfl rfl rfl) rfl (eff_to (y := bA true) (eff_icmp rfl rfl rfl rfl) (congrArg bA (by decide +kernel))) ?_
  refine aops_e (w0 rfl) rfl (eff_to (y := bA true) (eff_pick (t := true) rfl rfl rfl rfl) rfl) ?_
  refine aops_e (w0 rfl) rfl (eff_move rfl rfl) ?_
  refine aops_e (wT (d := true) rfl rfl rfl rfl) rfl (eff_move rfl rfl) ?_
  refine aops_e (wT (d := true) rfl rfl rfl rfl) rfl (eff_to (y := bA true) (eff_icmp rfl rfl rfl rfl) (congrArg bA (by decide +kernel))) ?_
  refine aops_e (w0 rfl) rfl (eff_to (y := bA true) (eff_pick (t := true) rfl rfl rfl rfl) rfl) ?_
  refine aops_e (w0 rfl) rfl (eff_move rfl rfl) ?_
  refine aops_e (wT (d := true) rfl rfl rfl rfl) rfl (eff_move rfl rfl) ?_
  refine aops_e (wT (d := true) rfl rfl rfl rfl) rfl (eff_to (y := iA 5) (eff_len rfl rfl rfl rfl) ((by show AV.v (.int .i64 (v1.length : Int)) = iA 5; rw [hv1]; rfl))) ?_
  refine aops_e (wT (d := true) rfl rfl rfl rfl) rfl (eff_to (y := bA true) (eff_icmp rfl rfl rfl rfl) (congrArg bA (by decide +kernel))) ?_
  refine aops_e (w0 rfl) rfl (eff_to (y := bA true) (eff_pick (t := true) rfl rfl rfl rfl) rfl) ?_
  refine aops_e (w0 rfl) rfl (eff_move rfl rfl) ?_
  refine aops_e (wT (d := true) rfl rfl rfl rfl) rfl (eff_move rfl rfl) ?_
  refine aops_e (wT (d := true) rfl rfl rfl rfl) rfl (eff_to (y := bA true) (eff_icmp rfl rfl rfl rfl) (congrArg bA (by decide +kernel))) ?_
  refine aops_e (w0 rfl) rfl (eff_to (y := bA true) (eff_pick (t := true) rfl rfl rfl rfl) rfl) ?_
  refine aops_e (w0 rfl) rfl (eff_assign rfl rfl) ?_
  refine aops_nil ?_
  refine awp_ret ?_
  exact retq rfl (res_tmp rfl res_nil) (gv rfl)

end Go.Sx
