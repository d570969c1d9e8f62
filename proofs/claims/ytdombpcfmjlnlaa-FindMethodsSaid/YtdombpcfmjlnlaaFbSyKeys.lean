/- What a map's keys are, as an iterator. -/
import Derived.Test.YtdombpcfmjlnlaaFbSyTry0
import Derived.Test.YtdombpcfmjlnlaaFbSxKeys
import Derived.Test.YtdombpcfmjlnlaaFbSxLive
set_option linter.unusedVariables false
set_option linter.unusedSimpArgs false
namespace Go.Sx
open Go Go.Proofs

theorem c_keysFn (out : List Str) (ho : out.Nodup) (i1 q : Nat) : SeqG Try.prog 103 [.ptr i1 1 0 0] [(i1, .rows 78 1 [[.map q]]), (q, .mp (setM out))] (fun s : Str => [sA s]) (AdmS out) (FinS out) := by
  refine ⟨⟨_, Try.func103, rfl, by decide +kernel⟩, ?_⟩
  intro id J Jx hY Hj hJ0
  refine acalls_of (n := 14) Try.func103 rfl (by decide +kernel) rfl rfl ?_
  intro Z C0 H0 wz C a w he hs
  obtain ⟨mb, N, ents, clock, hm, hu, hE, hw1, he1⟩ := setM_open (Z := Z) (k := 1) hs.wr rfl
  have hs1 : SR C ⟨enum [.yld id, .ptr i1 1 0 0] 0, [(i1, .rows 78 1 [[.map q]]), (q, .raw (.map ents clock))] ++ Hj, [], 14⟩ a w := ⟨hw1, hs.sl, hs.df, hs.du, hs.sz⟩
  refine wpIn_mono ((?_ : AWpO Z C ([(i1, .rows 78 1 [[.map q]]), (q, .raw (.map ents clock))] ++ Hj) w Try.prog none _ (RetQ Try.prog Try.f103 (SeqGR (FinS out) J Jx)) _) C a w (.refl ..) hs1) ?_
  rotate_left
  · rintro e a' w' ⟨h1, C', s', hq, hs', he'⟩
    exact ⟨h1, C', s', hq, hs', (he.trans he1).trans he'⟩
  refine awpo_seq ?_
  refine awpo_region ?_
  refine aopso_eff [(i1, .rows 78 1 [[.map q]])] (.map q) (w0 rfl) rfl (eff_load rfl rfl ⟨_, _, _, List.mem_cons_self, rfl, rfl⟩ ld_one) (fun p hp => by rw [List.mem_singleton.1 hp]; exact List.mem_cons_self) ?_
  refine aopso_range 1 (w0 rfl) rfl rfl rfl rfl hm hu (fun it => ?_)
  refine aopso_nil ?_
  refine awpo_block ?_
  refine awpo_loopJ (α := List MapEntry × AHeap) (fun x => ⟨[(5, .ptr it 1 0 0), (0, .yld id)], [(it, .raw (.mapIter (some mb) clock (bornsA x.1) clock)), (q, .raw (.map ents clock))] ++ x.2, [], 14⟩)
    (fun x => Got out ents x.1 ∧ J (x.1.map keyS) x.2) (fun x => (leftOf ents (bornsA x.1)).size) ([], Hj) ⟨.start out ents, hJ0⟩ ?_ ?_
  · exact weak_tail (F := [_, _, _]) (F' := [_, _]) (Hj := Hj) [0, 2] ⟨rfl, rfl, trivial⟩ rfl rfl rfl (by decide) rfl rfl
  rintro x ⟨hG, hJx⟩
  refine awpo_seq ?_
  refine awpo_region ?_
  refine aopso_next 0 1 (w0 rfl) rfl rfl rfl rfl rfl hm hu hE.born (Nat.le_refl _) (fun hz => ?_) (fun e hem => ?_)
  · refine aopso_e (w0 rfl) rfl (eff_extract rfl rfl rfl) ?_
    refine aopso_nil ?_
    refine awpo_seq ?_
    refine awpo_cond rfl nofun (fun _ => ?_)
    refine awpo_of (awp_exit ?_)
    exact retq_keep rfl res_nil (.cons _ (.cons _ (.refl _))) ⟨⟨_, rfl⟩, .inl ⟨_, _, hG.fin hE ho hz, .refl _, hJx⟩⟩
  · have hk := hE.keyS (mem_left hem).1
    have hG2 := hG.step hem
    have hA : AdmS out (x.1.map keyS ++ [keyS e]) := by have := hG2.keys hE ho; rw [List.map_append] at this; exact this
    refine aopso_e (w0 rfl) rfl (eff_extract rfl rfl rfl) ?_
    refine aopso_nil ?_
    refine awpo_seq ?_
    refine awpo_cond rfl (fun _ => ?_) nofun
    refine awpo_of (awp_skip ?_)
    refine awpo_block ?_
    refine awpo_seq ?_
    refine awpo_region ?_
    refine aopso_entry 0 1 (w0 rfl) rfl rfl rfl rfl rfl hm hu (mem_left hem).1 hE.nd ?_
    refine aopso_e (w0 rfl) rfl (eff_to (y := sA (keyS e)) (eff_extract rfl rfl rfl) (congrArg AV.v hk.1)) ?_
    refine aopso_e (w0 rfl) rfl (eff_assign rfl rfl) ?_
    refine aopso_nil ?_
    refine awpo_of ?_
    refine awp_seq ?_
    refine awp_region ?_
    refine aops_e (w0 rfl) rfl (eff_move rfl rfl) ?_
    refine aops_e (w0 rfl) rfl (eff_move rfl rfl) ?_
    refine aops_yieldB (J := J) (Jx := Jx) (l := x.1.map keyS ++ [keyS e]) [_, _] x.2 (w0 rfl) rfl rfl rfl rfl rfl (hY _ _ _ hA hJx) (fun bY Hn hyT hyF => ?_)
    refine aops_e (w0 rfl) rfl (eff_not rfl rfl) ?_
    refine aops_nil ?_
    refine awp_cond rfl ?_ ?_
    · intro hc
      refine awp_ret ?_
      exact retq_keep rfl res_nil (.cons _ (.cons _ (.refl _))) ⟨⟨_, rfl⟩, .inr ⟨_, _, .refl _, hyF (notT hc)⟩⟩
    · intro hc
      refine awp_skip ?_
      refine ⟨(x.1 ++ [e], Hn), ⟨hG2, by show J ((x.1 ++ [e]).map keyS) Hn; rw [List.map_append]; exact hyT (notF hc)⟩, Got.dec (out := out) hem, ?_⟩
      exact weak_tail (F := [_, _]) (F' := [_, _]) (Hj := Hn) [0, 1] ⟨rfl, rfl, trivial⟩ rfl rfl (by rw [bornsA_push]) (by decide) rfl rfl
end Go.Sx
