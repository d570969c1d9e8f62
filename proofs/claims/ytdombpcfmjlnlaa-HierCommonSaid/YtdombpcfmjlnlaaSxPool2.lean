/- Plain laws of pools: what a pool depends on. -/
import Derived.Test.YtdombpcfmjlnlaaSxPool
set_option linter.unusedVariables false
set_option linter.unusedSimpArgs false
namespace Go.Sx
open Go
theorem dd_permOf {a b : List Str} (h : ∀ x, x ∈ a ↔ x ∈ b) : (dd a).Perm (dd b) :=
  (List.perm_ext_iff_of_nodup (dd_nodup a) (dd_nodup b)).2 fun x => by rw [dd_mem, dd_mem, h]
theorem risF_of {a b : List Str} (h : ∀ x, x ∈ a ↔ x ∈ b) : risF a = risF b :=
  SOn.uniq ((risF_perm a).trans ((dd_permOf h).trans (risF_perm b).symm)) (risF_srt a) (risF_srt b)
theorem any_of {a b : List Str} (f : Str → Bool) (h : ∀ x, x ∈ a ↔ x ∈ b) : a.any f = b.any f := by
  rw [Bool.eq_iff_iff, List.any_eq_true, List.any_eq_true]
  exact ⟨fun ⟨x, h1, h2⟩ => ⟨x, (h x).1 h1, h2⟩, fun ⟨x, h1, h2⟩ => ⟨x, (h x).2 h1, h2⟩⟩
theorem makeP_of {a b : List Str} (h : ∀ x, x ∈ a ↔ x ∈ b) : makeP a = makeP b := by
  unfold makeP
  rw [any_of longS h, (dd_permOf h).length_eq, risF_of h]
theorem makeP_idem (l : List Str) : makeP (makeP l).1 = ((makeP l).1, 0) := by
  cases h : l.any longS || decide (1024 < (dd l).length) with
  | true =>
    have e : (makeP l).1 = [] := by unfold makeP; rw [h]; rfl
    rw [e]; rfl
  | false =>
    have e : (makeP l).1 = risF l := by unfold makeP; rw [h]; rfl
    have hm : ∀ x, x ∈ risF l ↔ x ∈ l := risF_mem l
    rw [e, makeP_of hm]
    unfold makeP; rw [h]; rfl
theorem dec_u8n {P : Program} {t : TypeId} (hu : P.underlying t = some (.int .u8)) : Dec P t (fun n : Nat => [uA n]) (fun n => n ≤ 255) := fun xs h => by
  obtain ⟨n, e, h1, h2⟩ := dec_u8 hu xs h
  obtain ⟨k, rfl⟩ := Int.eq_ofNat_of_zero_le h1
  exact ⟨k, e, by omega⟩
/-- A list, turned. -/
def rotF (l : List Str) (k i : Nat) : List Str := (List.range i).map fun j => l.getD ((j + k) % l.length) default
theorem rotF_len (l : List Str) (k i : Nat) : (rotF l k i).length = i := by simp [rotF]
theorem rotF_succ {l : List Str} {k i : Nat} (h : (i + k) % l.length < l.length) : rotF l k (i + 1) = rotF l k i ++ [l[(i + k) % l.length]] := by
  unfold rotF
  rw [List.range_succ, List.map_append, List.map_cons, List.map_nil, getD_eq h]
theorem rotF_mem (l : List Str) (k : Nat) (x : Str) : x ∈ rotF l k l.length ↔ x ∈ l := by
  unfold rotF
  rw [List.mem_map]
  constructor
  · rintro ⟨j, hj, rfl⟩
    have hn : 0 < l.length := by have := List.mem_range.1 hj; omega
    rw [getD_eq (Nat.mod_lt _ hn)]
    exact List.getElem_mem _
  · intro hx
    obtain ⟨j, hj, rfl⟩ := List.getElem_of_mem hx
    have hn : 0 < l.length := by omega
    refine ⟨(j + (l.length - k % l.length)) % l.length, List.mem_range.2 (Nat.mod_lt _ hn), ?_⟩
    have hk := Nat.mod_lt k hn
    have e : ((j + (l.length - k % l.length)) % l.length + k) % l.length = j := by
      rw [Nat.mod_add_mod, Nat.add_assoc, Nat.add_mod]
      have e2 : (l.length - k % l.length + k) % l.length = 0 := by
        rw [← Nat.add_mod_mod, Nat.sub_add_cancel (Nat.le_of_lt hk), Nat.mod_self]
      rw [e2, Nat.add_zero, Nat.mod_mod, Nat.mod_eq_of_lt hj]
    rw [e, getD_eq hj]
theorem makeP_rot (l : List Str) (k : Nat) : makeP (rotF l k l.length) = makeP l := makeP_of (rotF_mem l k)
theorem makeP_len {l m : List Str} {e : Int} (h : makeP l = (m, e)) {n : Nat} (hl : l.length ≤ n) : m.length ≤ n := by
  have h1 : (makeP l).1 = m := by rw [h]
  have h2 := dd_len l
  unfold makeP at h1
  split at h1
  · subst h1; simp
  · subst h1
    show (risF l).length ≤ n
    rw [(risF_perm l).length_eq]; omega
end Go.Sx
