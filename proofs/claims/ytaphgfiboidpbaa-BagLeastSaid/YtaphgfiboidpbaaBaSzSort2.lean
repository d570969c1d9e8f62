/- The library's sort by a way to compare (Site), walked. -/
import Derived.Test.YtaphgfiboidpbaaBaSzSort
set_option linter.unusedVariables false
set_option linter.unusedSimpArgs false
namespace Go.Sx
open Go Go.Proofs

theorem c_len64 (x : Nat) (hx : x < 18446744073709551616) : ACalls Try.prog 78 [xA x] [] (GSome (fun k : Nat => iA k) (fun k => k ≤ 64 ∧ (0 < x → 2 ^ k ≤ 2 * x))) := by
  refine acalls_of (n := 25) Try.func78 rfl (by decide +kernel) rfl rfl ?_
  refine awp_seq ?_
  refine awp_region ?_
  refine aops_e (w0 rfl) rfl (eff_to (y := iA (0 : Nat)) (eff_assign rfl rfl) (rfl)) ?_
  refine aops_nil ?_
  refine awp_seq ?_
  refine awp_seq ?_
  refine awp_region ?_
  refine aops_e (w0 rfl) rfl (eff_move rfl rfl) ?_
  refine aops_e (w0 rfl) rfl (eff_icmp rfl rfl rfl rfl) ?_
  refine aops_nil ?_
  refine awp_cond rfl ?_ ?_
  · intro hc
    refine awp_seq ?_
    refine awp_region ?_
    refine aops_e (w0 rfl) rfl (eff_move rfl rfl) ?_
    refine aops_e (w0 rfl) rfl (eff_to (y := xA (x / 2 ^ 32 : Nat)) (eff_shr rfl rfl rfl (by decide)) (congrArg xA (shrN x 32 (by decide)))) ?_
    refine aops_e (w0 rfl) rfl (eff_assign rfl rfl) ?_
    refine aops_nil ?_
    refine awp_region ?_
    refine aops_e (w0 rfl) rfl (eff_to (y := iA (32 : Nat)) (eff_assign rfl rfl) (rfl)) ?_
    refine aops_nil ?_
    refine awp_seq ?_
    refine awp_seq ?_
    refine awp_genN 0 rfl (fun y1 hy1 => ?_)
    refine awp_genN 2 rfl (fun n1 hn1 => ?_)
    have j1 : LenJ x y1 n1 := by rw [hy1, hn1]; exact LenJ.shr (LenJ.start x) 32 (by have := hc; simp at this; omega)
    have b1 : y1 < 4294967296 := by rw [hy1]; simp at hc; omega
    have e1 : n1 ≤ 32 := by rw [hn1]; omega
    refine awp_region ?_
    refine aops_e (w0 rfl) rfl (eff_move rfl rfl) ?_
    refine aops_e (w0 rfl) rfl (eff_icmp rfl rfl rfl rfl) ?_
    refine aops_nil ?_
    refine awp_cond rfl ?_ ?_
    · intro hc
      refine awp_seq ?_
      refine awp_region ?_
      refine aops_e (w0 rfl) rfl (eff_move rfl rfl) ?_
      refine aops_e (w0 rfl) rfl (eff_to (y := xA (y1 / 2 ^ 16 : Nat)) (eff_shr rfl rfl rfl (by decide)) (congrArg xA (shrN y1 16 (by decide)))) ?_
      refine aops_e (w0 rfl) rfl (eff_assign rfl rfl) ?_
      refine aops_nil ?_
      refine awp_region ?_
      refine aops_e (w0 rfl) rfl (eff_move rfl rfl) ?_
      refine aops_e (w0 rfl) rfl (eff_to (y := iA (n1 + 16 : Nat)) (eff_arith rfl rfl rfl (arith_add (by first | omega | (simp only [List.length_map]; omega)))) (congrArg iA (by omega))) ?_
      refine aops_e (w0 rfl) rfl (eff_assign rfl rfl) ?_
      refine aops_nil ?_
      refine awp_seq ?_
      refine awp_seq ?_
      refine awp_genN 0 rfl (fun y2 hy2 => ?_)
      refine awp_genN 2 rfl (fun n2 hn2 => ?_)
      have j2 : LenJ x y2 n2 := by rw [hy2, hn2]; exact LenJ.shr j1 16 (by have := hc; simp at this; omega)
      have b2 : y2 < 65536 := by rw [hy2]; simp at hc; omega
      have e2 : n2 ≤ 48 := by rw [hn2]; omega
      refine awp_region ?_
      refine aops_e (w0 rfl) rfl (eff_move rfl rfl) ?_
      refine aops_e (w0 rfl) rfl (eff_icmp rfl rfl rfl rfl) ?_
      refine aops_nil ?_
      refine awp_cond rfl ?_ ?_
      · intro hc
        refine awp_seq ?_
        refine awp_region ?_
        refine aops_e (w0 rfl) rfl (eff_move rfl rfl) ?_
        refine aops_e (w0 rfl) rfl (eff_to (y := xA (y2 / 2 ^ 8 : Nat)) (eff_shr rfl rfl rfl (by decide)) (congrArg xA (shrN y2 8 (by decide)))) ?_
        refine aops_e (w0 rfl) rfl (eff_assign rfl rfl) ?_
        refine aops_nil ?_
        refine awp_region ?_
        refine aops_e (w0 rfl) rfl (eff_move rfl rfl) ?_
        refine aops_e (w0 rfl) rfl (eff_to (y := iA (n2 + 8 : Nat)) (eff_arith rfl rfl rfl (arith_add (by first | omega | (simp only [List.length_map]; omega)))) (congrArg iA (by omega))) ?_
        refine aops_e (w0 rfl) rfl (eff_assign rfl rfl) ?_
        refine aops_nil ?_
        refine awp_seq ?_
        refine awp_genN 0 rfl (fun y3 hy3 => ?_)
        refine awp_genN 2 rfl (fun n3 hn3 => ?_)
        have j3 : LenJ x y3 n3 := by rw [hy3, hn3]; exact LenJ.shr j2 8 (by have := hc; simp at this; omega)
        have b3 : y3 < 256 := by rw [hy3]; simp at hc; omega
        have e3 : n3 ≤ 56 := by rw [hn3]; omega
        refine awp_region ?_
        refine aops_e (w0 rfl) rfl (eff_move rfl rfl) ?_
        refine aops_e (w0 rfl) rfl (eff_move rfl rfl) ?_
        refine aops_e (w0 rfl) rfl (eff_to (y := uA (y3 : Nat)) (eff_convInt rfl rfl) (congrArg uA (u8_wrap (by omega)))) ?_
        refine aops_e (w0 rfl) rfl (eff_to (y := uA (byteAt len8 (y3 : Nat))) (eff_sidx rfl rfl rfl (by first | (exact lt_len8 (by decide +kernel) (by omega)) | omega) (by first | (exact lt_len8 (by decide +kernel) (by omega)) | omega)) (sidx_len8 (by decide +kernel) _)) ?_
        refine aops_e (w0 rfl) rfl (eff_to (y := iA (byteAt len8 (y3 : Nat))) (eff_convInt rfl rfl) (congrArg iA (i64_wrap (by have := len8_ok ⟨y3, b3⟩; simp only at this; omega)))) ?_
        refine aops_e (w0 rfl) rfl (eff_arith rfl rfl rfl (arith_add (by (have := len8_ok ⟨y3, b3⟩; simp only at this; omega)))) ?_
        refine aops_e (w0 rfl) rfl (eff_assign rfl rfl) ?_
        refine aops_nil ?_
        refine awp_ret ?_
        exact retq rfl (res_tmp rfl res_nil) (gsome (n3 + (byteAt len8 (y3 : Nat)).toNat) ⟨by have := len8_ok ⟨y3, b3⟩; simp only at this; omega, fun hx => j3.fin (len8_ok ⟨y3, b3⟩).2.2 hx⟩ (congrArg iA (by have := len8_ok ⟨y3, b3⟩; simp only at this; omega)))
      · intro hc
        refine awp_skip ?_
        refine awp_seq ?_
        refine awp_genN 0 rfl (fun y3 hy3 => ?_)
        refine awp_genN 2 rfl (fun n3 hn3 => ?_)
        have j3 : LenJ x y3 n3 := by rw [hy3, hn3]; exact j2
        have b3 : y3 < 256 := by rw [hy3]; simp at hc; omega
        have e3 : n3 ≤ 56 := by rw [hn3]; omega
        refine awp_region ?_
        refine aops_e (w0 rfl) rfl (eff_move rfl rfl) ?_
        refine aops_e (w0 rfl) rfl (eff_move rfl rfl) ?_
        refine aops_e (w0 rfl) rfl (eff_to (y := uA (y3 : Nat)) (eff_convInt rfl rfl) (congrArg uA (u8_wrap (by omega)))) ?_
        refine aops_e (w0 rfl) rfl (eff_to (y := uA (byteAt len8 (y3 : Nat))) (eff_sidx rfl rfl rfl (by first | (exact lt_len8 (by decide +kernel) (by omega)) | omega) (by first | (exact lt_len8 (by decide +kernel) (by omega)) | omega)) (sidx_len8 (by decide +kernel) _)) ?_
        refine aops_e (w0 rfl) rfl (eff_to (y := iA (byteAt len8 (y3 : Nat))) (eff_convInt rfl rfl) (congrArg iA (i64_wrap (by have := len8_ok ⟨y3, b3⟩; simp only at this; omega)))) ?_
        refine aops_e (w0 rfl) rfl (eff_arith rfl rfl rfl (arith_add (by (have := len8_ok ⟨y3, b3⟩; simp only at this; omega)))) ?_
        refine aops_e (w0 rfl) rfl (eff_assign rfl rfl) ?_
        refine aops_nil ?_
        refine awp_ret ?_
        exact retq rfl (res_tmp rfl res_nil) (gsome (n3 + (byteAt len8 (y3 : Nat)).toNat) ⟨by have := len8_ok ⟨y3, b3⟩; simp only at this; omega, fun hx => j3.fin (len8_ok ⟨y3, b3⟩).2.2 hx⟩ (congrArg iA (by have := len8_ok ⟨y3, b3⟩; simp only at this; omega)))
    · intro hc
      refine awp_skip ?_
      refine awp_seq ?_
      refine awp_seq ?_
      refine awp_genN 0 rfl (fun y2 hy2 => ?_)
      refine awp_genN 2 rfl (fun n2 hn2 => ?_)
      have j2 : LenJ x y2 n2 := by rw [hy2, hn2]; exact j1
      have b2 : y2 < 65536 := by rw [hy2]; simp at hc; omega
      have e2 : n2 ≤ 48 := by rw [hn2]; omega
      refine awp_region ?_
      refine aops_e (w0 rfl) rfl (eff_move rfl rfl) ?_
      refine aops_e (w0 rfl) rfl (eff_icmp rfl rfl rfl rfl) ?_
      refine aops_nil ?_
      refine awp_cond rfl ?_ ?_
      · intro hc
        refine awp_seq ?_
        refine awp_region ?_
        refine aops_e (w0 rfl) rfl (eff_move rfl rfl) ?_
        refine aops_e (w0 rfl) rfl (eff_to (y := xA (y2 / 2 ^ 8 : Nat)) (eff_shr rfl rfl rfl (by decide)) (congrArg xA (shrN y2 8 (by decide)))) ?_
        refine aops_e (w0 rfl) rfl (eff_assign rfl rfl) ?_
        refine aops_nil ?_
        refine awp_region ?_
        refine aops_e (w0 rfl) rfl (eff_move rfl rfl) ?_
        refine aops_e (w0 rfl) rfl (eff_to (y := iA (n2 + 8 : Nat)) (eff_arith rfl rfl rfl (arith_add (by first | omega | (simp only [List.length_map]; omega)))) (congrArg iA (by omega))) ?_
        refine aops_e (w0 rfl) rfl (eff_assign rfl rfl) ?_
        refine aops_nil ?_
        refine awp_seq ?_
        refine awp_genN 0 rfl (fun y3 hy3 => ?_)
        refine awp_genN 2 rfl (fun n3 hn3 => ?_)
        have j3 : LenJ x y3 n3 := by rw [hy3, hn3]; exact LenJ.shr j2 8 (by have := hc; simp at this; omega)
        have b3 : y3 < 256 := by rw [hy3]; simp at hc; omega
        have e3 : n3 ≤ 56 := by rw [hn3]; omega
        refine awp_region ?_
        refine aops_e (w0 rfl) rfl (eff_move rfl rfl) ?_
        refine aops_e (w0 rfl) rfl (eff_move rfl rfl) ?_
        refine aops_e (w0 rfl) rfl (eff_to (y := uA (y3 : Nat)) (eff_convInt rfl rfl) (congrArg uA (u8_wrap (by omega)))) ?_
        refine aops_e (w0 rfl) rfl (eff_to (y := uA (byteAt len8 (y3 : Nat))) (eff_sidx rfl rfl rfl (by first | (exact lt_len8 (by decide +kernel) (by omega)) | omega) (by first | (exact lt_len8 (by decide +kernel) (by omega)) | omega)) (sidx_len8 (by decide +kernel) _)) ?_
        refine aops_e (w0 rfl) rfl (eff_to (y := iA (byteAt len8 (y3 : Nat))) (eff_convInt rfl rfl) (congrArg iA (i64_wrap (by have := len8_ok ⟨y3, b3⟩; simp only at this; omega)))) ?_
        refine aops_e (w0 rfl) rfl (eff_arith rfl rfl rfl (arith_add (by (have := len8_ok ⟨y3, b3⟩; simp only at this; omega)))) ?_
        refine aops_e (w0 rfl) rfl (eff_assign rfl rfl) ?_
        refine aops_nil ?_
        refine awp_ret ?_
        exact retq rfl (res_tmp rfl res_nil) (gsome (n3 + (byteAt len8 (y3 : Nat)).toNat) ⟨by have := len8_ok ⟨y3, b3⟩; simp only at this; omega, fun hx => j3.fin (len8_ok ⟨y3, b3⟩).2.2 hx⟩ (congrArg iA (by have := len8_ok ⟨y3, b3⟩; simp only at this; omega)))
      · intro hc
        refine awp_skip ?_
        refine awp_seq ?_
        refine awp_genN 0 rfl (fun y3 hy3 => ?_)
        refine awp_genN 2 rfl (fun n3 hn3 => ?_)
        have j3 : LenJ x y3 n3 := by rw [hy3, hn3]; exact j2
        have b3 : y3 < 256 := by rw [hy3]; simp at hc; omega
        have e3 : n3 ≤ 56 := by rw [hn3]; omega
        refine awp_region ?_
        refine aops_e (w0 rfl) rfl (eff_move rfl rfl) ?_
        refine aops_e (w0 rfl) rfl (eff_move rfl rfl) ?_
        refine aops_e (w0 rfl) rfl (eff_to (y := uA (y3 : Nat)) (eff_convInt rfl rfl) (congrArg uA (u8_wrap (by omega)))) ?_
        refine aops_e (w0 rfl) rfl (eff_to (y := uA (byteAt len8 (y3 : Nat))) (eff_sidx rfl rfl rfl (by first | (exact lt_len8 (by decide +kernel) (by omega)) | omega) (by first | (exact lt_len8 (by decide +kernel) (by omega)) | omega)) (sidx_len8 (by decide +kernel) _)) ?_
        refine aops_e (w0 rfl) rfl (eff_to (y := iA (byteAt len8 (y3 : Nat))) (eff_convInt rfl rfl) (congrArg iA (i64_wrap (by have := len8_ok ⟨y3, b3⟩; simp only at this; omega)))) ?_
        refine aops_e (w0 rfl) rfl (eff_arith rfl rfl rfl (arith_add (by (have := len8_ok ⟨y3, b3⟩; simp only at this; omega)))) ?_
        refine aops_e (w0 rfl) rfl (eff_assign rfl rfl) ?_
        refine aops_nil ?_
        refine awp_ret ?_
        exact retq rfl (res_tmp rfl res_nil) (gsome (n3 + (byteAt len8 (y3 : Nat)).toNat) ⟨by have := len8_ok ⟨y3, b3⟩; simp only at this; omega, fun hx => j3.fin (len8_ok ⟨y3, b3⟩).2.2 hx⟩ (congrArg iA (by have := len8_ok ⟨y3, b3⟩; simp only at this; omega)))
  · intro hc
    refine awp_skip ?_
    refine awp_seq ?_
    refine awp_seq ?_
    refine awp_genN 0 rfl (fun y1 hy1 => ?_)
    refine awp_genN 2 rfl (fun n1 hn1 => ?_)
    have j1 : LenJ x y1 n1 := by rw [hy1, hn1]; exact (LenJ.start x)
    have b1 : y1 < 4294967296 := by rw [hy1]; simp at hc; omega
    have e1 : n1 ≤ 32 := by rw [hn1]; omega
    refine awp_region ?_
    refine aops_e (w0 rfl) rfl (eff_move rfl rfl) ?_
    refine aops_e (w0 rfl) rfl (eff_icmp rfl rfl rfl rfl) ?_
    refine aops_nil ?_
    refine awp_cond rfl ?_ ?_
    · intro hc
      refine awp_seq ?_
      refine awp_region ?_
      refine aops_e (w0 rfl) rfl (eff_move rfl rfl) ?_
      refine aops_e (w0 rfl) rfl (eff_to (y := xA (y1 / 2 ^ 16 : Nat)) (eff_shr rfl rfl rfl (by decide)) (congrArg xA (shrN y1 16 (by decide)))) ?_
      refine aops_e (w0 rfl) rfl (eff_assign rfl rfl) ?_
      refine aops_nil ?_
      refine awp_region ?_
      refine aops_e (w0 rfl) rfl (eff_move rfl rfl) ?_
      refine aops_e (w0 rfl) rfl (eff_to (y := iA (n1 + 16 : Nat)) (eff_arith rfl rfl rfl (arith_add (by first | omega | (simp only [List.length_map]; omega)))) (congrArg iA (by omega))) ?_
      refine aops_e (w0 rfl) rfl (eff_assign rfl rfl) ?_
      refine aops_nil ?_
      refine awp_seq ?_
      refine awp_seq ?_
      refine awp_genN 0 rfl (fun y2 hy2 => ?_)
      refine awp_genN 2 rfl (fun n2 hn2 => ?_)
      have j2 : LenJ x y2 n2 := by rw [hy2, hn2]; exact LenJ.shr j1 16 (by have := hc; simp at this; omega)
      have b2 : y2 < 65536 := by rw [hy2]; simp at hc; omega
      have e2 : n2 ≤ 48 := by rw [hn2]; omega
      refine awp_region ?_
      refine aops_e (w0 rfl) rfl (eff_move rfl rfl) ?_
      refine aops_e (w0 rfl) rfl (eff_icmp rfl rfl rfl rfl) ?_
      refine aops_nil ?_
      refine awp_cond rfl ?_ ?_
      · intro hc
        refine awp_seq ?_
        refine awp_region ?_
        refine aops_e (w0 rfl) rfl (eff_move rfl rfl) ?_
        refine aops_e (w0 rfl) rfl (eff_to (y := xA (y2 / 2 ^ 8 : Nat)) (eff_shr rfl rfl rfl (by decide)) (congrArg xA (shrN y2 8 (by decide)))) ?_
        refine aops_e (w0 rfl) rfl (eff_assign rfl rfl) ?_
        refine aops_nil ?_
        refine awp_region ?_
        refine aops_e (w0 rfl) rfl (eff_move rfl rfl) ?_
        refine aops_e (w0 rfl) rfl (eff_to (y := iA (n2 + 8 : Nat)) (eff_arith rfl rfl rfl (arith_add (by first | omega | (simp only [List.length_map]; omega)))) (congrArg iA (by omega))) ?_
        refine aops_e (w0 rfl) rfl (eff_assign rfl rfl) ?_
        refine aops_nil ?_
        refine awp_seq ?_
        refine awp_genN 0 rfl (fun y3 hy3 => ?_)
        refine awp_genN 2 rfl (fun n3 hn3 => ?_)
        have j3 : LenJ x y3 n3 := by rw [hy3, hn3]; exact LenJ.shr j2 8 (by have := hc; simp at this; omega)
        have b3 : y3 < 256 := by rw [hy3]; simp at hc; omega
        have e3 : n3 ≤ 56 := by rw [hn3]; omega
        refine awp_region ?_
        refine aops_e (w0 rfl) rfl (eff_move rfl rfl) ?_
        refine aops_e (w0 rfl) rfl (eff_move rfl rfl) ?_
        refine aops_e (w0 rfl) rfl (eff_to (y := uA (y3 : Nat)) (eff_convInt rfl rfl) (congrArg uA (u8_wrap (by omega)))) ?_
        refine aops_e (w0 rfl) rfl (eff_to (y := uA (byteAt len8 (y3 : Nat))) (eff_sidx rfl rfl rfl (by first | (exact lt_len8 (by decide +kernel) (by omega)) | omega) (by first | (exact lt_len8 (by decide +kernel) (by omega)) | omega)) (sidx_len8 (by decide +kernel) _)) ?_
        refine aops_e (w0 rfl) rfl (eff_to (y := iA (byteAt len8 (y3 : Nat))) (eff_convInt rfl rfl) (congrArg iA (i64_wrap (by have := len8_ok ⟨y3, b3⟩; simp only at this; omega)))) ?_
        refine aops_e (w0 rfl) rfl (eff_arith rfl rfl rfl (arith_add (by (have := len8_ok ⟨y3, b3⟩; simp only at this; omega)))) ?_
        refine aops_e (w0 rfl) rfl (eff_assign rfl rfl) ?_
        refine aops_nil ?_
        refine awp_ret ?_
        exact retq rfl (res_tmp rfl res_nil) (gsome (n3 + (byteAt len8 (y3 : Nat)).toNat) ⟨by have := len8_ok ⟨y3, b3⟩; simp only at this; omega, fun hx => j3.fin (len8_ok ⟨y3, b3⟩).2.2 hx⟩ (congrArg iA (by have := len8_ok ⟨y3, b3⟩; simp only at this; omega)))
      · intro hc
        refine awp_skip ?_
        refine awp_seq ?_
        refine awp_genN 0 rfl (fun y3 hy3 => ?_)
        refine awp_genN 2 rfl (fun n3 hn3 => ?_)
        have j3 : LenJ x y3 n3 := by rw [hy3, hn3]; exact j2
        have b3 : y3 < 256 := by rw [hy3]; simp at hc; omega
        have e3 : n3 ≤ 56 := by rw [hn3]; omega
        refine awp_region ?_
        refine aops_e (w0 rfl) rfl (eff_move rfl rfl) ?_
        refine aops_e (w0 rfl) rfl (eff_move rfl rfl) ?_
        refine aops_e (w0 rfl) rfl (eff_to (y := uA (y3 : Nat)) (eff_convInt rfl rfl) (congrArg uA (u8_wrap (by omega)))) ?_
        refine aops_e (w0 rfl) rfl (eff_to (y := uA (byteAt len8 (y3 : Nat))) (eff_sidx rfl rfl rfl (by first | (exact lt_len8 (by decide +kernel) (by omega)) | omega) (by first | (exact lt_len8 (by decide +kernel) (by omega)) | omega)) (sidx_len8 (by decide +kernel) _)) ?_
        refine aops_e (w0 rfl) rfl (eff_to (y := iA (byteAt len8 (y3 : Nat))) (eff_convInt rfl rfl) (congrArg iA (i64_wrap (by have := len8_ok ⟨y3, b3⟩; simp only at this; omega)))) ?_
        refine aops_e (w0 rfl) rfl (eff_arith rfl rfl rfl (arith_add (by (have := len8_ok ⟨y3, b3⟩; simp only at this; omega)))) ?_
        refine aops_e (w0 rfl) rfl (eff_assign rfl rfl) ?_
        refine aops_nil ?_
        refine awp_ret ?_
        exact retq rfl (res_tmp rfl res_nil) (gsome (n3 + (byteAt len8 (y3 : Nat)).toNat) ⟨by have := len8_ok ⟨y3, b3⟩; simp only at this; omega, fun hx => j3.fin (len8_ok ⟨y3, b3⟩).2.2 hx⟩ (congrArg iA (by have := len8_ok ⟨y3, b3⟩; simp only at this; omega)))
    · intro hc
      refine awp_skip ?_
      refine awp_seq ?_
      refine awp_seq ?_
      refine awp_genN 0 rfl (fun y2 hy2 => ?_)
      refine awp_genN 2 rfl (fun n2 hn2 => ?_)
      have j2 : LenJ x y2 n2 := by rw [hy2, hn2]; exact j1
      have b2 : y2 < 65536 := by rw [hy2]; simp at hc; omega
      have e2 : n2 ≤ 48 := by rw [hn2]; omega
      refine awp_region ?_
      refine aops_e (w0 rfl) rfl (eff_move rfl rfl) ?_
      refine aops_e (w0 rfl) rfl (eff_icmp rfl rfl rfl rfl) ?_
      refine aops_nil ?_
      refine awp_cond rfl ?_ ?_
      · intro hc
        refine awp_seq ?_
        refine awp_region ?_
        refine aops_e (w0 rfl) rfl (eff_move rfl rfl) ?_
        refine aops_e (w0 rfl) rfl (eff_to (y := xA (y2 / 2 ^ 8 : Nat)) (eff_shr rfl rfl rfl (by decide)) (congrArg xA (shrN y2 8 (by decide)))) ?_
        refine aops_e (w0 rfl) rfl (eff_assign rfl rfl) ?_
        refine aops_nil ?_
        refine awp_region ?_
        refine aops_e (w0 rfl) rfl (eff_move rfl rfl) ?_
        refine aops_e (w0 rfl) rfl (eff_to (y := iA (n2 + 8 : Nat)) (eff_arith rfl rfl rfl (arith_add (by first | omega | (simp only [List.length_map]; omega)))) (congrArg iA (by omega))) ?_
        refine aops_e (w0 rfl) rfl (eff_assign rfl rfl) ?_
        refine aops_nil ?_
        refine awp_seq ?_
        refine awp_genN 0 rfl (fun y3 hy3 => ?_)
        refine awp_genN 2 rfl (fun n3 hn3 => ?_)
        have j3 : LenJ x y3 n3 := by rw [hy3, hn3]; exact LenJ.shr j2 8 (by have := hc; simp at this; omega)
        have b3 : y3 < 256 := by rw [hy3]; simp at hc; omega
        have e3 : n3 ≤ 56 := by rw [hn3]; omega
        refine awp_region ?_
        refine aops_e (w0 rfl) rfl (eff_move rfl rfl) ?_
        refine aops_e (w0 rfl) rfl (eff_move rfl rfl) ?_
        refine aops_e (w0 rfl) rfl (eff_to (y := uA (y3 : Nat)) (eff_convInt rfl rfl) (congrArg uA (u8_wrap (by omega)))) ?_
        refine aops_e (w0 rfl) rfl (eff_to (y := uA (byteAt len8 (y3 : Nat))) (eff_sidx rfl rfl rfl (by first | (exact lt_len8 (by decide +kernel) (by omega)) | omega) (by first | (exact lt_len8 (by decide +kernel) (by omega)) | omega)) (sidx_len8 (by decide +kernel) _)) ?_
        refine aops_e (w0 rfl) rfl (eff_to (y := iA (byteAt len8 (y3 : Nat))) (eff_convInt rfl rfl) (congrArg iA (i64_wrap (by have := len8_ok ⟨y3, b3⟩; simp only at this; omega)))) ?_
        refine aops_e (w0 rfl) rfl (eff_arith rfl rfl rfl (arith_add (by (have := len8_ok ⟨y3, b3⟩; simp only at this; omega)))) ?_
        refine aops_e (w0 rfl) rfl (eff_assign rfl rfl) ?_
        refine aops_nil ?_
        refine awp_ret ?_
        exact retq rfl (res_tmp rfl res_nil) (gsome (n3 + (byteAt len8 (y3 : Nat)).toNat) ⟨by have := len8_ok ⟨y3, b3⟩; simp only at this; omega, fun hx => j3.fin (len8_ok ⟨y3, b3⟩).2.2 hx⟩ (congrArg iA (by have := len8_ok ⟨y3, b3⟩; simp only at this; omega)))
      · intro hc
        refine awp_skip ?_
        refine awp_seq ?_
        refine awp_genN 0 rfl (fun y3 hy3 => ?_)
        refine awp_genN 2 rfl (fun n3 hn3 => ?_)
        have j3 : LenJ x y3 n3 := by rw [hy3, hn3]; exact j2
        have b3 : y3 < 256 := by rw [hy3]; simp at hc; omega
        have e3 : n3 ≤ 56 := by rw [hn3]; omega
        refine awp_region ?_
        refine aops_e (w0 rfl) rfl (eff_move rfl rfl) ?_
        refine aops_e (w0 rfl) rfl (eff_move rfl rfl) ?_
        refine aops_e (w0 rfl) rfl (eff_to (y := uA (y3 : Nat)) (eff_convInt rfl rfl) (congrArg uA (u8_wrap (by omega)))) ?_
        refine aops_e (w0 rfl) rfl (eff_to (y := uA (byteAt len8 (y3 : Nat))) (eff_sidx rfl rfl rfl (by first | (exact lt_len8 (by decide +kernel) (by omega)) | omega) (by first | (exact lt_len8 (by decide +kernel) (by omega)) | omega)) (sidx_len8 (by decide +kernel) _)) ?_
        refine aops_e (w0 rfl) rfl (eff_to (y := iA (byteAt len8 (y3 : Nat))) (eff_convInt rfl rfl) (congrArg iA (i64_wrap (by have := len8_ok ⟨y3, b3⟩; simp only at this; omega)))) ?_
        refine aops_e (w0 rfl) rfl (eff_arith rfl rfl rfl (arith_add (by (have := len8_ok ⟨y3, b3⟩; simp only at this; omega)))) ?_
        refine aops_e (w0 rfl) rfl (eff_assign rfl rfl) ?_
        refine aops_nil ?_
        refine awp_ret ?_
        exact retq rfl (res_tmp rfl res_nil) (gsome (n3 + (byteAt len8 (y3 : Nat)).toNat) ⟨by have := len8_ok ⟨y3, b3⟩; simp only at this; omega, fun hx => j3.fin (len8_ok ⟨y3, b3⟩).2.2 hx⟩ (congrArg iA (by have := len8_ok ⟨y3, b3⟩; simp only at this; omega)))

theorem c_bitsLen (x : Nat) (hx : x < 18446744073709551616) : ACalls Try.prog 63 [xA x] [] (GSome (fun k : Nat => iA k) (fun k => k ≤ 64 ∧ (0 < x → 2 ^ k ≤ 2 * x))) := by
  refine acalls_of (n := 8) Try.func63 rfl (by decide +kernel) rfl rfl ?_
  refine awp_seq ?_
  refine awp_region ?_
  refine aops_e (w0 rfl) rfl (eff_assign rfl rfl) ?_
  refine aops_nil ?_
  refine awp_seq ?_
  refine awp_cond rfl ?_ ?_
  · intro hc
    simp at hc
  · intro hc
    refine awp_skip ?_
    refine awp_seq ?_
    refine awp_region ?_
    refine aops_e (w0 rfl) rfl (eff_move rfl rfl) ?_
    refine aops_callS (w0 rfl) rfl rfl rfl rfl (c_len64 x hx) (fun v1 hv1 => ?_)
    refine aops_e (w0 rfl) rfl (eff_assign rfl rfl) ?_
    refine aops_nil ?_
    refine awp_ret ?_
    exact retq rfl (res_tmp rfl res_nil) (gsome _ hv1 rfl)

theorem c_nextPow (x : Nat) (h0 : 0 < x) (hx : x ≤ 140737488355328) : ACalls Try.prog 81 [iA x] [] (GSome (fun m : Nat => xA m) (fun m => 0 < m ∧ m ≤ 2 * x)) := by
  refine acalls_of (n := 7) Try.func81 rfl (by decide +kernel) rfl rfl ?_
  refine awp_seq ?_
  refine awp_region ?_
  refine aops_e (w0 rfl) rfl (eff_assign rfl rfl) ?_
  refine aops_nil ?_
  refine awp_seq ?_
  refine awp_region ?_
  refine aops_e (w0 rfl) rfl (eff_move rfl rfl) ?_
  refine aops_e (w0 rfl) rfl (eff_to (y := xA x) (eff_convInt rfl rfl) (congrArg xA (u64_wrap (by omega)))) ?_
  refine aops_callS (w0 rfl) rfl rfl rfl rfl (c_bitsLen x (by omega)) (fun v1 hv1 => ?_)
  refine aops_e (w0 rfl) rfl (eff_to (y := xA (2 ^ v1 : Nat)) (eff_shl rfl rfl rfl (by omega)) (congrArg xA (pow_shl h0 hx hv1))) ?_
  refine aops_e (w0 rfl) rfl (eff_assign rfl rfl) ?_
  refine aops_nil ?_
  refine awp_ret ?_
  exact retq rfl (res_tmp rfl res_nil) (gsome (2 ^ v1) ⟨Nat.two_pow_pos _, hv1.2 h0⟩ rfl)

theorem c_xnext (si : Nat) (c : Int) : ACalls Try.prog 82 [.ptr si 1 0 0] [(si, .rows 110 1 [[xA c]])] (GP (fun v : Int => xA v) (fun v => [(si, .rows 110 1 [[xA v]])]) (fun _ => True)) := by
  refine acalls_of (n := 33) Try.func82 rfl (by decide +kernel) rfl rfl ?_
  refine awp_seq ?_
  refine awp_region ?_
  refine aops_e (w0 rfl) rfl (eff_assign rfl rfl) ?_
  refine aops_nil ?_
  refine awp_seq ?_
  refine awp_drawN 9 rfl (by kernel_rfl) ?_
  refine calm_e (w0 rfl) rfl (eff_move rfl rfl) ?_
  refine calm_e (w0 rfl) rfl (eff_nilCheck rfl rfl rfl) ?_
  refine calm_load_ptr 0 (w0 rfl) rfl rfl rfl rfl rfl ld_one ?_
  refine calm_e (w0 rfl) rfl (eff_move rfl rfl) ?_
  refine calm_e (w0 rfl) rfl (eff_nilCheck rfl rfl rfl) ?_
  refine calm_load_ptr 0 (w0 rfl) rfl rfl rfl rfl rfl ld_one ?_
  refine calm_e (w0 rfl) rfl (eff_shl rfl rfl rfl (by decide)) ?_
  refine calm_e (w0 rfl) rfl (eff_bits rfl (by simp) rfl rfl) ?_
  refine calm_e (w0 rfl) rfl (eff_nilCheck rfl rfl rfl) ?_
  refine .done ?_
  refine aops_store 0 (w0 rfl) rfl rfl rfl rfl rfl rfl rfl rfl rfl ?_
  refine aops_nil ?_
  refine awp_seq ?_
  refine awp_drawN 9 rfl (by kernel_rfl) ?_
  refine calm_e (w0 rfl) rfl (eff_move rfl rfl) ?_
  refine calm_e (w0 rfl) rfl (eff_nilCheck rfl rfl rfl) ?_
  refine calm_load_ptr 0 (w0 rfl) rfl rfl rfl rfl rfl ld_one ?_
  refine calm_e (w0 rfl) rfl (eff_move rfl rfl) ?_
  refine calm_e (w0 rfl) rfl (eff_nilCheck rfl rfl rfl) ?_
  refine calm_load_ptr 0 (w0 rfl) rfl rfl rfl rfl rfl ld_one ?_
  refine calm_e (w0 rfl) rfl (eff_shr rfl rfl rfl (by decide)) ?_
  refine calm_e (w0 rfl) rfl (eff_bits rfl (by simp) rfl rfl) ?_
  refine calm_e (w0 rfl) rfl (eff_nilCheck rfl rfl rfl) ?_
  refine .done ?_
  refine aops_store 0 (w0 rfl) rfl rfl rfl rfl rfl rfl rfl rfl rfl ?_
  refine aops_nil ?_
  refine awp_seq ?_
  refine awp_drawN 9 rfl (by kernel_rfl) ?_
  refine calm_e (w0 rfl) rfl (eff_move rfl rfl) ?_
  refine calm_e (w0 rfl) rfl (eff_nilCheck rfl rfl rfl) ?_
  refine calm_load_ptr 0 (w0 rfl) rfl rfl rfl rfl rfl ld_one ?_
  refine calm_e (w0 rfl) rfl (eff_move rfl rfl) ?_
  refine calm_e (w0 rfl) rfl (eff_nilCheck rfl rfl rfl) ?_
  refine calm_load_ptr 0 (w0 rfl) rfl rfl rfl rfl rfl ld_one ?_
  refine calm_e (w0 rfl) rfl (eff_shl rfl rfl rfl (by decide)) ?_
  refine calm_e (w0 rfl) rfl (eff_bits rfl (by simp) rfl rfl) ?_
  refine calm_e (w0 rfl) rfl (eff_nilCheck rfl rfl rfl) ?_
  refine .done ?_
  refine aops_store 0 (w0 rfl) rfl rfl rfl rfl rfl rfl rfl rfl rfl ?_
  refine aops_nil ?_
  refine awp_seq ?_
  refine awp_region ?_
  refine aops_e (w0 rfl) rfl (eff_move rfl rfl) ?_
  refine aops_e (w0 rfl) rfl (eff_nilCheck rfl rfl rfl) ?_
  refine aops_load_ptr 0 (w0 rfl) rfl rfl rfl rfl rfl ld_one ?_
  refine aops_e (w0 rfl) rfl (eff_assign rfl rfl) ?_
  refine aops_nil ?_
  refine awp_ret ?_
  exact retq_keep rfl (res_tmp rfl res_nil) (.cons_cons _ .slnil) (gp _ trivial rfl rfl)

theorem c_breakF (q n : Nat) (l : List Site) (hn : l.length = n) (hN : n ≤ 140737488355328) (a b : Nat) (hab : a + 12 < b) (hb : b ≤ n) : ACalls Try.prog 71 [.own q 5 0 n, iA a, iA b, .fn (.func 26) []] [(q, .rows 26 5 (l.map Site.cells))] (GP (fun _ : List Site => mkRes []) (fun m => [(q, .rows 26 5 (m.map Site.cells))]) (fun m => Sw a b l m)) := by
  refine acalls_of (n := 67) Try.func71 rfl (by decide +kernel) rfl rfl ?_
  refine awp_seq ?_
  refine awp_region ?_
  refine aops_e (w0 rfl) rfl (eff_move rfl rfl) ?_
  refine aops_e (w0 rfl) rfl (eff_move rfl rfl) ?_
  refine aops_e (w0 rfl) rfl (eff_to (y := iA (b - a : Nat)) (eff_arith rfl rfl rfl (arith_sub (by first | omega | (simp only [List.length_map]; omega)))) (congrArg iA (by omega))) ?_
  refine aops_e (w0 rfl) rfl (eff_assign rfl rfl) ?_
  refine aops_nil ?_
  refine awp_seq ?_
  refine awp_region ?_
  refine aops_e (w0 rfl) rfl (eff_move rfl rfl) ?_
  refine aops_e (w0 rfl) rfl (eff_icmp rfl rfl rfl rfl) ?_
  refine aops_nil ?_
  refine awp_cond rfl ?_ ?_
  · intro hc
    refine awp_seq ?_
    refine awp_region ?_
    refine aops_e (w0 rfl) rfl (eff_move rfl rfl) ?_
    refine aops_e (w0 rfl) rfl (eff_convInt rfl rfl) ?_
    refine aops_n (w0 rfl) rfl (fun id => eff_alloc id rfl rfl rfl) (fun id1 => ?_)
    refine aops_store 0 (w0 rfl) rfl rfl rfl rfl rfl rfl rfl rfl rfl ?_
    refine aops_nil ?_
    refine awp_seq ?_
    refine awp_region ?_
    refine aops_e (w0 rfl) rfl (eff_move rfl rfl) ?_
    refine aops_callS (w0 rfl) rfl rfl rfl rfl (c_nextPow (b - a) (by omega) (by omega)) (fun v2 hv2 => ?_)
    refine aops_e (w0 rfl) rfl (eff_assign rfl rfl) ?_
    refine aops_nil ?_
    refine awp_seq ?_
    refine awp_region ?_
    refine aops_e (w0 rfl) rfl (eff_move rfl rfl) ?_
    refine aops_e (w0 rfl) rfl (eff_move rfl rfl) ?_
    refine aops_e (w0 rfl) rfl (eff_to (y := iA ((b - a) / 4 : Nat)) (eff_quo rfl rfl rfl (by decide) (tdivN_ok (b - a) 4 (by omega))) (congrArg iA (tdivN (b - a) 4))) ?_
    refine aops_e (w0 rfl) rfl (eff_arith rfl rfl rfl (arith_mul (by first | omega | (simp only [List.length_map]; omega)))) ?_
    refine aops_e (w0 rfl) rfl (eff_arith rfl rfl rfl (arith_add (by first | omega | (simp only [List.length_map]; omega)))) ?_
    refine aops_e (w0 rfl) rfl (eff_to (y := iA (a + (b - a) / 4 * 2 - 1 : Nat)) (eff_arith rfl rfl rfl (arith_sub (by first | omega | (simp only [List.length_map]; omega)))) (congrArg iA (by omega))) ?_
    refine aops_e (w0 rfl) rfl (eff_assign rfl rfl) ?_
    refine aops_nil ?_
    refine awp_block ?_
    refine awp_loopJ (α := List Site × Nat × Int) (fun x => ⟨[(11, iA x.2.1), (8, iA (b - a : Nat)), (9, .ptr id1 1 0 0), (10, xA v2), (0, .own q 5 0 n), (1, iA a), (3, .fn (.func 26) [])], [(q, .rows 26 5 (x.1.map Site.cells)), (id1, .rows 110 1 [[xA x.2.2]])], [], 67⟩) (fun x => Sw a b l x.1 ∧ a ≤ x.2.1) (fun x => a + (b - a) / 4 * 2 + 2 - x.2.1) (l, a + (b - a) / 4 * 2 - 1, IntKind.u64.wrap (b - a : Nat)) ⟨.refl, (by (try simp only) <;> omega)⟩ ?_ ?_
    · exact weak_pick [1, 0] ⟨rfl, rfl, rfl, rfl, rfl, rfl, rfl, trivial⟩ rfl (by decide) rfl rfl
    rintro x hJ
    have hm := hJ.1.len
    refine awp_seq ?_
    refine awp_seq ?_
    refine awp_region ?_
    refine aops_e (w0 rfl) rfl (eff_move rfl rfl) ?_
    refine aops_e (w0 rfl) rfl (eff_move rfl rfl) ?_
    refine aops_e (w0 rfl) rfl (eff_move rfl rfl) ?_
    refine aops_e (w0 rfl) rfl (eff_to (y := iA ((b - a : Nat) / 4 : Nat)) (eff_quo rfl rfl rfl (by decide) (tdivN_ok (b - a : Nat) 4 (by omega))) (congrArg iA (tdivN (b - a : Nat) 4))) ?_
    refine aops_e (w0 rfl) rfl (eff_arith rfl rfl rfl (arith_mul (by first | omega | (simp only [List.length_map]; omega)))) ?_
    refine aops_e (w0 rfl) rfl (eff_arith rfl rfl rfl (arith_add (by first | omega | (simp only [List.length_map]; omega)))) ?_
    refine aops_e (w0 rfl) rfl (eff_to (y := iA (a + (b - a) / 4 * 2 + 1 : Nat)) (eff_arith rfl rfl rfl (arith_add (by first | omega | (simp only [List.length_map]; omega)))) (congrArg iA (by omega))) ?_
    refine aops_e (w0 rfl) rfl (eff_icmp rfl rfl rfl rfl) ?_
    refine aops_nil ?_
    refine awp_cond rfl ?_ ?_
    · intro hc
      have hx : x.2.1 ≤ a + (b - a) / 4 * 2 + 1 := by simp at hc; omega
      refine awp_skip ?_
      refine awp_seq ?_
      refine awp_block ?_
      refine awp_seq ?_
      refine awp_region ?_
      refine aops_callP [_] _ (w0 rfl) rfl rfl rfl rfl (perm_get (k := 1) rfl) (c_xnext _ _) (fun v3 hv3 => ?_)
      refine aops_e (w0 rfl) rfl (eff_move rfl rfl) ?_
      refine aops_e (w0 rfl) rfl (eff_arith rfl rfl rfl rfl) ?_
      refine aops_e (w0 rfl) rfl (eff_bits rfl (by simp) rfl rfl) ?_
      refine aops_e (w0 rfl) rfl (eff_convInt rfl rfl) ?_
      refine aops_e (w0 rfl) rfl (eff_assign rfl rfl) ?_
      refine aops_nil ?_
      refine awp_seq ?_
      refine awp_seq ?_
      refine awp_genI 12 rfl (fun ot hot => ?_)
      have ho := and_lt (v := v3) (m := v2) hv2.1 (by omega)
      rw [← hot] at ho
      refine awp_region ?_
      refine aops_e (w0 rfl) rfl (eff_move rfl rfl) ?_
      refine aops_e (w0 rfl) rfl (eff_move rfl rfl) ?_
      refine aops_e (w0 rfl) rfl (eff_icmp rfl rfl rfl rfl) ?_
      refine aops_nil ?_
      refine awp_cond rfl ?_ ?_
      · intro hc
        have hge : ((b - a : Nat) : Int) ≤ ot := by simpa using hc
        refine awp_region ?_
        refine aops_e (w0 rfl) rfl (eff_move rfl rfl) ?_
        refine aops_e (w0 rfl) rfl (eff_move rfl rfl) ?_
        refine aops_e (w0 rfl) rfl (eff_arith rfl rfl rfl (arith_sub (by first | omega | (simp only [List.length_map]; omega)))) ?_
        refine aops_e (w0 rfl) rfl (eff_assign rfl rfl) ?_
        refine aops_nil ?_
        refine awp_eqI 12 rfl (show _ = (((ot - (b - a : Nat)).toNat : Nat) : Int) by omega) ?_
        refine awp_drawW [0, 0, 0, 0, 0, 24, 0, 0, 0, 384, 960, 1984, 0, 0, 12288, 28672, 65475, 131011, 262143, 524287] [17, 19] [11, 15] rfl (by kernel_rfl) ?_
        refine wcalm_e (w0 rfl) rfl (eff_move rfl rfl) rfl ?_
        refine wcalm_e (w0 rfl) rfl (eff_move rfl rfl) rfl ?_
        refine wcalm_e (w0 rfl) rfl (eff_move rfl rfl) rfl ?_
        refine wcalm_e (w0 rfl) rfl (eff_move rfl rfl) rfl ?_
        refine wcalm_e (w0 rfl) rfl (eff_move rfl rfl) rfl ?_
        refine wcalm_e (w0 rfl) rfl (eff_arith rfl rfl rfl (arith_add (by first | omega | (simp only [List.length_map]; omega)))) rfl ?_
        refine wcalm_e (w0 rfl) rfl (eff_move rfl rfl) rfl ?_
        refine wcalm_e (w0 rfl) rfl (eff_move rfl rfl) rfl ?_
        refine wcalm_e (w0 rfl) rfl (eff_move rfl rfl) rfl ?_
        refine wcalm_e (w0 rfl) rfl (eff_arith rfl rfl rfl (arith_add (by first | omega | (simp only [List.length_map]; omega)))) rfl ?_
        refine wcalm_e (w0 rfl) rfl (eff_indexAddr_ownN (a + (ot - (b - a : Nat)).toNat) rfl rfl rfl (by first | omega | (simp only [List.length_map]; omega) | (simp only [List.length_map, List.length_drop]; omega)) (by first | omega | (simp only [List.length_map]; omega) | (simp only [List.length_map, List.length_drop]; omega)) (by omega)) rfl ?_
        refine wcalm_load_ptr 1 (w0 rfl) rfl rfl rfl rfl (own_getC (by first | assumption | omega | (simp only [List.length_drop]; omega))) (ld_aggC rfl) rfl rfl ?_
        refine wcalm_e (w0 rfl) rfl (eff_move rfl rfl) rfl ?_
        refine wcalm_e (w0 rfl) rfl (eff_move rfl rfl) rfl ?_
        refine wcalm_e (w0 rfl) rfl (eff_indexAddr_ownN x.2.1 rfl rfl rfl (by first | omega | (simp only [List.length_map]; omega) | (simp only [List.length_map, List.length_drop]; omega)) (by first | omega | (simp only [List.length_map]; omega) | (simp only [List.length_map, List.length_drop]; omega)) (by omega)) rfl ?_
        refine wcalm_load_ptr 1 (w0 rfl) rfl rfl rfl rfl (own_getC (by first | assumption | omega | (simp only [List.length_drop]; omega))) (ld_aggC rfl) rfl rfl ?_
        refine wcalm_e (w0 rfl) rfl (eff_indexAddr_ownN x.2.1 rfl rfl rfl (by first | omega | (simp only [List.length_map]; omega) | (simp only [List.length_map, List.length_drop]; omega)) (by first | omega | (simp only [List.length_map]; omega) | (simp only [List.length_map, List.length_drop]; omega)) (by omega)) rfl ?_
        refine wcalm_storeC (f := Site.cells) 1 (fun _ => rfl) (fun _ => rfl) (w0 rfl) rfl rfl rfl rfl (by first | omega | (simp; omega)) rfl rfl ?_
        refine wcalm_e (w0 rfl) rfl (eff_indexAddr_ownN (a + (ot - (b - a : Nat)).toNat) rfl rfl rfl (by first | omega | (simp only [List.length_map]; omega) | (simp only [List.length_map, List.length_drop]; omega)) (by first | omega | (simp only [List.length_map]; omega) | (simp only [List.length_map, List.length_drop]; omega)) (by omega)) rfl ?_
        refine wcalm_storeC (f := Site.cells) 1 (fun _ => rfl) (fun _ => rfl) (w0 rfl) rfl rfl rfl rfl (by first | omega | (simp; omega)) rfl rfl ?_
        refine .done ?_
        refine awp_region ?_
        refine aops_e (w0 rfl) rfl (eff_move rfl rfl) ?_
        refine aops_e (w0 rfl) rfl (eff_arith rfl rfl rfl (arith_add (by first | omega | (simp only [List.length_map]; omega)))) ?_
        refine aops_e (w0 rfl) rfl (eff_assign rfl rfl) ?_
        refine aops_nil ?_
        refine ⟨(swp x.1 x.2.1 (a + (ot - (b - a : Nat)).toNat), x.2.1 + 1, v3), ⟨.step _ _ hJ.1 (by (try simp only) <;> omega) (by (try simp only) <;> omega) (by (try simp only) <;> omega), (by (try simp only) <;> omega)⟩, (by (try simp only) <;> omega), ?_⟩
        exact weak_pick [1, 0] ⟨rfl, rfl, rfl, rfl, rfl, rfl, rfl, trivial⟩ rfl (by decide) rfl rfl
      · intro hc
        have hlt : ot < ((b - a : Nat) : Int) := by simpa using hc
        refine awp_skip ?_
        refine awp_eqI 12 rfl (show _ = ((ot.toNat : Nat) : Int) by omega) ?_
        refine awp_drawW [0, 0, 0, 0, 0, 24, 0, 0, 0, 384, 960, 1984, 0, 0, 12288, 28672, 65475, 131011, 262143, 524287] [17, 19] [11, 15] rfl (by kernel_rfl) ?_
        refine wcalm_e (w0 rfl) rfl (eff_move rfl rfl) rfl ?_
        refine wcalm_e (w0 rfl) rfl (eff_move rfl rfl) rfl ?_
        refine wcalm_e (w0 rfl) rfl (eff_move rfl rfl) rfl ?_
        refine wcalm_e (w0 rfl) rfl (eff_move rfl rfl) rfl ?_
        refine wcalm_e (w0 rfl) rfl (eff_move rfl rfl) rfl ?_
        refine wcalm_e (w0 rfl) rfl (eff_arith rfl rfl rfl (arith_add (by first | omega | (simp only [List.length_map]; omega)))) rfl ?_
        refine wcalm_e (w0 rfl) rfl (eff_move rfl rfl) rfl ?_
        refine wcalm_e (w0 rfl) rfl (eff_move rfl rfl) rfl ?_
        refine wcalm_e (w0 rfl) rfl (eff_move rfl rfl) rfl ?_
        refine wcalm_e (w0 rfl) rfl (eff_arith rfl rfl rfl (arith_add (by first | omega | (simp only [List.length_map]; omega)))) rfl ?_
        refine wcalm_e (w0 rfl) rfl (eff_indexAddr_ownN (a + ot.toNat) rfl rfl rfl (by first | omega | (simp only [List.length_map]; omega) | (simp only [List.length_map, List.length_drop]; omega)) (by first | omega | (simp only [List.length_map]; omega) | (simp only [List.length_map, List.length_drop]; omega)) (by omega)) rfl ?_
        refine wcalm_load_ptr 1 (w0 rfl) rfl rfl rfl rfl (own_getC (by first | assumption | omega | (simp only [List.length_drop]; omega))) (ld_aggC rfl) rfl rfl ?_
        refine wcalm_e (w0 rfl) rfl (eff_move rfl rfl) rfl ?_
        refine wcalm_e (w0 rfl) rfl (eff_move rfl rfl) rfl ?_
        refine wcalm_e (w0 rfl) rfl (eff_indexAddr_ownN x.2.1 rfl rfl rfl (by first | omega | (simp only [List.length_map]; omega) | (simp only [List.length_map, List.length_drop]; omega)) (by first | omega | (simp only [List.length_map]; omega) | (simp only [List.length_map, List.length_drop]; omega)) (by omega)) rfl ?_
        refine wcalm_load_ptr 1 (w0 rfl) rfl rfl rfl rfl (own_getC (by first | assumption | omega | (simp only [List.length_drop]; omega))) (ld_aggC rfl) rfl rfl ?_
        refine wcalm_e (w0 rfl) rfl (eff_indexAddr_ownN x.2.1 rfl rfl rfl (by first | omega | (simp only [List.length_map]; omega) | (simp only [List.length_map, List.length_drop]; omega)) (by first | omega | (simp only [List.length_map]; omega) | (simp only [List.length_map, List.length_drop]; omega)) (by omega)) rfl ?_
        refine wcalm_storeC (f := Site.cells) 1 (fun _ => rfl) (fun _ => rfl) (w0 rfl) rfl rfl rfl rfl (by first | omega | (simp; omega)) rfl rfl ?_
        refine wcalm_e (w0 rfl) rfl (eff_indexAddr_ownN (a + ot.toNat) rfl rfl rfl (by first | omega | (simp only [List.length_map]; omega) | (simp only [List.length_map, List.length_drop]; omega)) (by first | omega | (simp only [List.length_map]; omega) | (simp only [List.length_map, List.length_drop]; omega)) (by omega)) rfl ?_
        refine wcalm_storeC (f := Site.cells) 1 (fun _ => rfl) (fun _ => rfl) (w0 rfl) rfl rfl rfl rfl (by first | omega | (simp; omega)) rfl rfl ?_
        refine .done ?_
        refine awp_region ?_
        refine aops_e (w0 rfl) rfl (eff_move rfl rfl) ?_
        refine aops_e (w0 rfl) rfl (eff_arith rfl rfl rfl (arith_add (by first | omega | (simp only [List.length_map]; omega)))) ?_
        refine aops_e (w0 rfl) rfl (eff_assign rfl rfl) ?_
        refine aops_nil ?_
        refine ⟨(swp x.1 x.2.1 (a + ot.toNat), x.2.1 + 1, v3), ⟨.step _ _ hJ.1 (by (try simp only) <;> omega) (by (try simp only) <;> omega) (by (try simp only) <;> omega), (by (try simp only) <;> omega)⟩, (by (try simp only) <;> omega), ?_⟩
        exact weak_pick [1, 0] ⟨rfl, rfl, rfl, rfl, rfl, rfl, rfl, trivial⟩ rfl (by decide) rfl rfl
    · intro hc
      refine awp_exit ?_
      exact retq_keep rfl res_nil (.cons_cons _ (.cons _ .slnil)) (gp x.1 hJ.1 rfl rfl)
  · intro hc
    exfalso; simp at hc; omega

set_option maxHeartbeats 1000000 in
theorem c_pdqF (q n : Nat) (hN : n ≤ 140737488355328) (k : Nat) : ∀ (l : List Site) (hn : l.length = n) (a b : Nat) (lim : Int) (hk : b - a ≤ k) (ha : a ≤ b) (hb : b ≤ n) (hbd : Bd sLt a b l), ACalls Try.prog 62 [.own q 5 0 n, iA a, iA b, iA lim, .fn (.func 26) []] [(q, .rows 26 5 (l.map Site.cells))] (GP (fun _ : List Site => mkRes []) (fun m => [(q, .rows 26 5 (m.map Site.cells))]) (fun m => Sw a b l m ∧ SOn sLt a b m)) := by
  induction k using Nat.strongRecOn with
  | _ k ih =>
  intro l hn a b lim hk ha hb hbd
  refine acalls_of (n := 148) Try.func62 rfl (by decide +kernel) rfl rfl ?_
  refine awp_seq ?_
  refine awp_region ?_
  refine aops_e (w0 rfl) rfl (eff_assign rfl rfl) ?_
  refine aops_nil ?_
  refine awp_seq ?_
  refine awp_region ?_
  refine aops_e (w0 rfl) rfl (eff_assign rfl rfl) ?_
  refine aops_nil ?_
  refine awp_block ?_
  refine awp_loopJ (α := List Site × Nat × Nat × Int × Bool × Bool) (fun x => ⟨[(10, bA x.2.2.2.2.1), (11, bA x.2.2.2.2.2), (0, .own q 5 0 n), (1, iA x.2.1), (2, iA x.2.2.1), (3, iA x.2.2.2.1), (4, .fn (.func 26) [])], [(q, .rows 26 5 (x.1.map Site.cells))], [], 148⟩) (fun x => Rest sLt a b l x.2.1 x.2.2.1 x.1) (fun x => x.2.2.1 - x.2.1) (l, a, b, lim, true, true) (Rest.start ha hbd) ?_ ?_
  · exact weak_pick [0] ⟨rfl, rfl, rfl, rfl, rfl, rfl, rfl, trivial⟩ rfl (by decide) rfl rfl
  rintro x hJ
  have hm := hJ.sw.len
  have hA := hJ.ha
  have hB := hJ.hb
  have hAB := hJ.hab
  refine awp_block ?_
  refine awp_seq ?_
  refine awp_region ?_
  refine aops_e (w0 rfl) rfl (eff_move rfl rfl) ?_
  refine aops_e (w0 rfl) rfl (eff_move rfl rfl) ?_
  refine aops_e (w0 rfl) rfl (eff_to (y := iA (x.2.2.1 - x.2.1 : Nat)) (eff_arith rfl rfl rfl (arith_sub (by first | omega | (simp only [List.length_map]; omega)))) (congrArg iA (by omega))) ?_
  refine aops_e (w0 rfl) rfl (eff_assign rfl rfl) ?_
  refine aops_nil ?_
  refine awp_seq ?_
  refine awp_seq ?_
  refine awp_region ?_
  refine aops_e (w0 rfl) rfl (eff_move rfl rfl) ?_
  refine aops_e (w0 rfl) rfl (eff_icmp rfl rfl rfl rfl) ?_
  refine aops_nil ?_
  refine awp_cond rfl ?_ ?_
  · intro hc
    refine awp_seq ?_
    refine awp_region ?_
    refine aops_e (w0 rfl) rfl (eff_move rfl rfl) ?_
    refine aops_e (w0 rfl) rfl (eff_move rfl rfl) ?_
    refine aops_e (w0 rfl) rfl (eff_move rfl rfl) ?_
    refine aops_e (w0 rfl) rfl (eff_move rfl rfl) ?_
    refine aops_callP [_] _ (w0 rfl) rfl rfl rfl rfl (perm_get (k := 0) rfl) (c_insSortF q n x.1 (by omega) hN x.2.1 x.2.2.1 hAB (by omega)) (fun v1 hv1 => ?_)
    refine aops_nil ?_
    refine awp_ret ?_
    exact retq_keep rfl res_nil (.cons_cons _ .slnil) (gp v1 ⟨hJ.sw.trans (hv1.1.mono hA hB (by omega)), hJ.fin _ hv1.1 (hv1.2.on sLtT.ok)⟩ rfl rfl)
  · intro hc
    have hlen : 12 < x.2.2.1 - x.2.1 := by simp at hc; omega
    refine awp_skip ?_
    refine awp_seq ?_
    refine awp_seq ?_
    refine awp_region ?_
    refine aops_e (w0 rfl) rfl (eff_move rfl rfl) ?_
    refine aops_e (w0 rfl) rfl (eff_icmp rfl rfl rfl rfl) ?_
    refine aops_nil ?_
    refine awp_cond rfl ?_ ?_
    · intro hc
      refine awp_seq ?_
      refine awp_region ?_
      refine aops_e (w0 rfl) rfl (eff_move rfl rfl) ?_
      refine aops_e (w0 rfl) rfl (eff_move rfl rfl) ?_
      refine aops_e (w0 rfl) rfl (eff_move rfl rfl) ?_
      refine aops_e (w0 rfl) rfl (eff_move rfl rfl) ?_
      refine aops_callP [_] _ (w0 rfl) rfl rfl rfl rfl (perm_get (k := 0) rfl) (c_heapSortF q n x.1 (by omega) hN x.2.1 x.2.2.1 hAB (by omega)) (fun v2 hv2 => ?_)
      refine aops_nil ?_
      refine awp_ret ?_
      exact retq_keep rfl res_nil (.cons_cons _ .slnil) (gp v2 ⟨hJ.sw.trans (hv2.1.mono hA hB (by omega)), hJ.fin _ hv2.1 hv2.2⟩ rfl rfl)
    · intro hc
      refine awp_skip ?_
      refine awp_seq ?_
      refine awp_seq ?_
      refine awp_region ?_
      refine aops_e (w0 rfl) rfl (eff_move rfl rfl) ?_
      refine aops_e (w0 rfl) rfl (eff_not rfl rfl) ?_
      refine aops_nil ?_
      refine awp_cond rfl ?_ ?_
      · intro hc
        refine awp_seq ?_
        refine awp_region ?_
        refine aops_e (w0 rfl) rfl (eff_move rfl rfl) ?_
        refine aops_e (w0 rfl) rfl (eff_move rfl rfl) ?_
        refine aops_e (w0 rfl) rfl (eff_move rfl rfl) ?_
        refine aops_e (w0 rfl) rfl (eff_move rfl rfl) ?_
        refine aops_callP [_] _ (w0 rfl) rfl rfl rfl rfl (perm_get (k := 0) rfl) (c_breakF q n x.1 (by omega) hN x.2.1 x.2.2.1 (by omega) (by omega)) (fun v3 hv3 => ?_)
        have hJ1 := hJ.move (by omega) hv3
        refine aops_nil ?_
        refine awp_region ?_
        refine aops_e (w0 rfl) rfl (eff_move rfl rfl) ?_
        refine aops_e (w0 rfl) rfl (eff_arith rfl rfl rfl rfl) ?_
        refine aops_e (w0 rfl) rfl (eff_assign rfl rfl) ?_
        refine aops_nil ?_
        refine awp_seq ?_
        refine awp_region ?_
        refine aops_e (w0 rfl) rfl (eff_move rfl rfl) ?_
        refine aops_e (w0 rfl) rfl (eff_move rfl rfl) ?_
        refine aops_e (w0 rfl) rfl (eff_move rfl rfl) ?_
        refine aops_e (w0 rfl) rfl (eff_move rfl rfl) ?_
        refine aops_callP [_] _ (w0 rfl) rfl rfl rfl rfl (perm_get (k := 0) rfl) (c_pivotF q n _ (by have := hJ1.sw.len; omega) hN x.2.1 x.2.2.1 (by omega) (by omega)) (fun v4 hv4 => ?_)
        refine aops_e (w0 rfl) rfl (eff_move rfl rfl) ?_
        refine aops_e (w0 rfl) rfl (eff_extract rfl rfl rfl) ?_
        refine aops_e (w0 rfl) rfl (eff_extract rfl rfl rfl) ?_
        refine aops_e (w0 rfl) rfl (eff_assign rfl rfl) ?_
        refine aops_e (w0 rfl) rfl (eff_assign rfl rfl) ?_
        refine aops_nil ?_
        refine awp_seq ?_
        refine awp_seq ?_
        refine awp_genN 13 rfl (fun pv hpv => ?_)
        have hp : x.2.1 ≤ pv ∧ pv < x.2.2.1 := by rw [hpv]; exact hv4
        refine awp_region ?_
        refine aops_e (w0 rfl) rfl (eff_move rfl rfl) ?_
        refine aops_e (w0 rfl) rfl (eff_icmp rfl rfl rfl rfl) ?_
        refine aops_nil ?_
        refine awp_cond rfl ?_ ?_
        · intro hc
          refine awp_seq ?_
          refine awp_region ?_
          refine aops_e (w0 rfl) rfl (eff_move rfl rfl) ?_
          refine aops_e (w0 rfl) rfl (eff_move rfl rfl) ?_
          refine aops_e (w0 rfl) rfl (eff_move rfl rfl) ?_
          refine aops_e (w0 rfl) rfl (eff_move rfl rfl) ?_
          refine aops_callP [_] _ (w0 rfl) rfl rfl rfl rfl (perm_get (k := 0) rfl) (c_revF q n _ (by have := hJ1.sw.len; omega) hN x.2.1 x.2.2.1 (by omega) (by omega)) (fun v5 hv5 => ?_)
          have hJ2 := hJ1.move (by omega) hv5
          refine aops_nil ?_
          refine awp_seq ?_
          refine awp_region ?_
          refine aops_e (w0 rfl) rfl (eff_move rfl rfl) ?_
          refine aops_e (w0 rfl) rfl (eff_arith rfl rfl rfl (arith_sub (by first | omega | (simp only [List.length_map]; omega)))) ?_
          refine aops_e (w0 rfl) rfl (eff_move rfl rfl) ?_
          refine aops_e (w0 rfl) rfl (eff_move rfl rfl) ?_
          refine aops_e (w0 rfl) rfl (eff_arith rfl rfl rfl (arith_sub (by first | omega | (simp only [List.length_map]; omega)))) ?_
          refine aops_e (w0 rfl) rfl (eff_to (y := iA (x.2.2.1 - 1 - (pv - x.2.1) : Nat)) (eff_arith rfl rfl rfl (arith_sub (by first | omega | (simp only [List.length_map]; omega)))) (congrArg iA (by omega))) ?_
          refine aops_e (w0 rfl) rfl (eff_assign rfl rfl) ?_
          refine aops_nil ?_
          refine awp_region ?_
          refine aops_e (w0 rfl) rfl (eff_assign rfl rfl) ?_
          refine aops_nil ?_
          refine awp_seq ?_
          refine awp_seq ?_
          refine awp_genN 13 rfl (fun p2 hp2 => ?_)
          have hp2' : x.2.1 ≤ p2 ∧ p2 < x.2.2.1 := by omega
          refine awp_region ?_
          refine aops_e (w0 rfl) rfl (eff_move rfl rfl) ?_
          refine aops_e (w0 rfl) rfl (eff_move rfl rfl) ?_
          refine aops_g (wT rfl rfl rfl rfl) rfl (fun hg => (eff_move rfl rfl)) ?_
          refine aops_e (w0 rfl) rfl (eff_and rfl rfl rfl (fun h => h)) ?_
          refine aops_e (w0 rfl) rfl (eff_move rfl rfl) ?_
          refine aops_g (wT rfl rfl rfl rfl) rfl (fun hg => (eff_move rfl rfl)) ?_
          refine aops_g (wT rfl rfl rfl rfl) rfl (fun hg => (eff_icmp rfl (ev_g hg rfl) rfl rfl)) ?_
          refine aops_e (w0 rfl) rfl (eff_and rfl rfl rfl (fun h => h)) ?_
          refine aops_nil ?_
          refine awp_cond rfl ?_ ?_
          · intro hc
            refine awp_seq ?_
            refine awp_region ?_
            refine aops_e (w0 rfl) rfl (eff_move rfl rfl) ?_
            refine aops_e (w0 rfl) rfl (eff_move rfl rfl) ?_
            refine aops_e (w0 rfl) rfl (eff_move rfl rfl) ?_
            refine aops_e (w0 rfl) rfl (eff_move rfl rfl) ?_
            refine aops_callP [_] _ (w0 rfl) rfl rfl rfl rfl (perm_get (k := 0) rfl) (c_partialF q n _ (by have := hJ2.sw.len; omega) hN x.2.1 x.2.2.1 (by omega) (by omega) hJ2.bd) (fun v6 hv6 => ?_)
            have hJ3 := hJ2.move (by omega) hv6.1
            refine aops_nil ?_
            refine awp_cond rfl ?_ ?_
            · intro hc
              refine awp_ret ?_
              exact retq_keep rfl res_nil (.cons_cons _ .slnil) (gp v6.1 ⟨hJ3.sw, hJ2.fin _ hv6.1 ((hv6.2 hc).on sLtT.ok)⟩ rfl rfl)
            · intro hc
              have hl3 := hJ3.sw.len
              refine awp_skip ?_
              refine awp_seq ?_
              refine awp_seq ?_
              refine awp_drawM [0, 1, 3, 7, 7, 7, 39, 119, 247, 7, 7, 1543, 3591, 8191, 16383, 32767, 65535] 17 rfl (by kernel_rfl) ?_
              refine calm_e (w0 rfl) rfl (eff_move rfl rfl) ?_
              refine calm_e (w0 rfl) rfl (eff_icmp rfl rfl rfl rfl) ?_
              refine calm_e (w0 rfl) rfl (eff_move rfl rfl) ?_
              refine calm_g (wT rfl rfl rfl rfl) rfl (fun hg => (eff_move rfl rfl)) ?_
              refine calm_g (wT rfl rfl rfl rfl) rfl (fun hg => (eff_move rfl rfl)) ?_
              refine calm_g (wT rfl rfl rfl rfl) rfl (fun hg => (eff_move rfl rfl)) ?_
              refine calm_g (wT rfl rfl rfl rfl) rfl (fun hg => (eff_arith rfl (ev_g hg rfl) rfl (arith_sub (by first | omega | (simp only [List.length_map]; omega))))) ?_
              refine calm_g (wT rfl rfl rfl rfl) rfl (fun hg => (eff_indexAddr_ownN (x.2.1 - 1) rfl (ev_g hg rfl) (ev_g hg rfl) (by (try simp at hg) <;> first | omega | (simp only [List.length_map]; omega) | (simp only [List.length_map, List.length_drop]; omega)) (by (try simp at hg) <;> first | omega | (simp only [List.length_map]; omega) | (simp only [List.length_map, List.length_drop]; omega)) (by omega))) ?_
              refine calm_gloadC (f := Site.cells) 0 (wT rfl rfl rfl rfl) rfl rfl (fun hg => (ev_g hg rfl)) rfl (fun hg => by (try simp at hg) <;> (first | assumption | omega | (simp only [List.length_drop]; omega))) (fun _ => ld_aggC rfl) ?_
              refine calm_g (wT rfl rfl rfl rfl) rfl (fun hg => (eff_move rfl rfl)) ?_
              refine calm_g (wT rfl rfl rfl rfl) rfl (fun hg => (eff_move rfl rfl)) ?_
              refine calm_g (wT rfl rfl rfl rfl) rfl (fun hg => (eff_indexAddr_ownN p2 rfl (ev_g hg rfl) (ev_g hg rfl) (by (try simp at hg) <;> first | omega | (simp only [List.length_map]; omega) | (simp only [List.length_map, List.length_drop]; omega)) (by (try simp at hg) <;> first | omega | (simp only [List.length_map]; omega) | (simp only [List.length_map, List.length_drop]; omega)) (by omega))) ?_
              refine calm_gloadC (f := Site.cells) 0 (wT rfl rfl rfl rfl) rfl rfl (fun hg => (ev_g hg rfl)) rfl (fun hg => by (try simp at hg) <;> (first | assumption | omega | (simp only [List.length_drop]; omega))) (fun _ => ld_aggC rfl) ?_
              refine calm_g (wT rfl rfl rfl rfl) rfl (fun hg => (eff_call [] rfl (ev_g hg rfl) (evs_cons (ev_g hg rfl) (evs_cons (ev_g hg rfl) evs_nil)) (c_cmpSite _ _) List.nodup_nil)) ?_
              refine calm_g (wT rfl rfl rfl rfl) rfl (fun hg => (eff_icmp rfl (ev_g hg rfl) rfl rfl)) ?_
              refine calm_g (wT rfl rfl rfl rfl) rfl (fun hg => (eff_not rfl (ev_g hg rfl))) ?_
              refine calm_e (w0 rfl) rfl (eff_and rfl rfl rfl (fun h => h)) ?_
              refine .done ?_
              refine aops_nil ?_
              refine awp_cond rfl ?_ ?_
              · intro hc
                have ha0 : 0 < x.2.1 := by have := andL hc; simpa using this
                have hpe := notT (andR hc)
                refine awp_seq ?_
                refine awp_region ?_
                refine aops_e (w0 rfl) rfl (eff_move rfl rfl) ?_
                refine aops_e (w0 rfl) rfl (eff_move rfl rfl) ?_
                refine aops_e (w0 rfl) rfl (eff_move rfl rfl) ?_
                refine aops_e (w0 rfl) rfl (eff_move rfl rfl) ?_
                refine aops_e (w0 rfl) rfl (eff_move rfl rfl) ?_
                refine aops_callP [_] _ (w0 rfl) rfl rfl rfl rfl (perm_get (k := 0) rfl) (c_partEF q n _ (by omega) hN x.2.1 x.2.2.1 p2 hp2'.1 hp2'.2 (by omega)) (fun v7 hv7 => ?_)
                refine aops_e (w0 rfl) rfl (eff_assign rfl rfl) ?_
                refine aops_nil ?_
                refine awp_seq ?_
                refine awp_region ?_
                refine aops_e (w0 rfl) rfl (eff_move rfl rfl) ?_
                refine aops_e (w0 rfl) rfl (eff_assign rfl rfl) ?_
                refine aops_nil ?_
                refine awp_exit ?_
                refine ⟨(v7.1, v7.2, x.2.2.1, IntKind.i64.wrap (x.2.2.2.1 - 1), x.2.2.2.2.1, x.2.2.2.2.2), (by obtain ⟨j, e, he⟩ := hv7.2.2.2.2; exact (hJ3.move (by omega) hv7.1).equal sLtT.ok (by omega) ha0 (by rw [hv7.1.out (.inl (by omega)), hv7.2.2.2.1]; exact hpe) he e hv7.2.1 hv7.2.2.1), (by (try simp only) <;> (have := hv7.2.1; omega)), ?_⟩
                exact weak_pick [0] ⟨rfl, rfl, rfl, rfl, rfl, rfl, rfl, trivial⟩ rfl (by decide) rfl rfl
              · intro hc
                refine awp_skip ?_
                refine awp_seq ?_
                refine awp_region ?_
                refine aops_e (w0 rfl) rfl (eff_move rfl rfl) ?_
                refine aops_e (w0 rfl) rfl (eff_move rfl rfl) ?_
                refine aops_e (w0 rfl) rfl (eff_move rfl rfl) ?_
                refine aops_e (w0 rfl) rfl (eff_move rfl rfl) ?_
                refine aops_e (w0 rfl) rfl (eff_move rfl rfl) ?_
                refine aops_callP [_] _ (w0 rfl) rfl rfl rfl rfl (perm_get (k := 0) rfl) (c_partF q n _ (by omega) hN x.2.1 x.2.2.1 p2 hp2'.1 hp2'.2 (by omega)) (fun v8 hv8 => ?_)
                refine aops_e (w0 rfl) rfl (eff_move rfl rfl) ?_
                refine aops_e (w0 rfl) rfl (eff_extract rfl rfl rfl) ?_
                refine aops_e (w0 rfl) rfl (eff_extract rfl rfl rfl) ?_
                refine aops_e (w0 rfl) rfl (eff_assign rfl rfl) ?_
                refine aops_e (w0 rfl) rfl (eff_assign rfl rfl) ?_
                refine aops_nil ?_
                refine awp_seq ?_
                refine awp_region ?_
                refine aops_e (w0 rfl) rfl (eff_move rfl rfl) ?_
                refine aops_e (w0 rfl) rfl (eff_assign rfl rfl) ?_
                refine aops_nil ?_
                refine awp_seq ?_
                have hJ4 := hJ3.move (by omega) hv8.1
                have hl4 := hJ4.sw.len
                have hmid : x.2.1 ≤ v8.2.1 ∧ v8.2.1 < x.2.2.1 := ⟨hv8.2.1, hv8.2.2.1⟩
                refine awp_region ?_
                refine aops_e (w0 rfl) rfl (eff_move rfl rfl) ?_
                refine aops_e (w0 rfl) rfl (eff_move rfl rfl) ?_
                refine aops_e (w0 rfl) rfl (eff_arith rfl rfl rfl (arith_sub (by first | omega | (simp only [List.length_map]; omega)))) ?_
                refine aops_e (w0 rfl) rfl (eff_move rfl rfl) ?_
                refine aops_e (w0 rfl) rfl (eff_move rfl rfl) ?_
                refine aops_e (w0 rfl) rfl (eff_arith rfl rfl rfl (arith_sub (by first | omega | (simp only [List.length_map]; omega)))) ?_
                refine aops_e (w0 rfl) rfl (eff_assign rfl rfl) ?_
                refine aops_e (w0 rfl) rfl (eff_assign rfl rfl) ?_
                refine aops_nil ?_
                refine awp_seq ?_
                refine awp_region ?_
                refine aops_e (w0 rfl) rfl (eff_move rfl rfl) ?_
                refine aops_e (w0 rfl) rfl (eff_to (y := iA ((x.2.2.1 - x.2.1) / 8 : Nat)) (eff_quo rfl rfl rfl (by decide) (tdivN_ok (x.2.2.1 - x.2.1) 8 (by omega))) (congrArg iA (tdivN (x.2.2.1 - x.2.1) 8))) ?_
                refine aops_e (w0 rfl) rfl (eff_assign rfl rfl) ?_
                refine aops_nil ?_
                refine awp_seq ?_
                refine awp_region ?_
                refine aops_e (w0 rfl) rfl (eff_move rfl rfl) ?_
                refine aops_e (w0 rfl) rfl (eff_move rfl rfl) ?_
                refine aops_e (w0 rfl) rfl (eff_icmp rfl rfl rfl rfl) ?_
                refine aops_nil ?_
                refine awp_cond rfl ?_ ?_
                · intro hc
                  refine awp_seq ?_
                  refine awp_region ?_
                  refine aops_e (w0 rfl) rfl (eff_move rfl rfl) ?_
                  refine aops_e (w0 rfl) rfl (eff_move rfl rfl) ?_
                  refine aops_e (w0 rfl) rfl (eff_icmp rfl rfl rfl rfl) ?_
                  refine aops_e (w0 rfl) rfl (eff_assign rfl rfl) ?_
                  refine aops_nil ?_
                  refine awp_seq ?_
                  refine awp_genB 10 rfl (fun wb hwb => ?_)
                  refine awp_region ?_
                  refine aops_e (w0 rfl) rfl (eff_move rfl rfl) ?_
                  refine aops_e (w0 rfl) rfl (eff_move rfl rfl) ?_
                  refine aops_e (w0 rfl) rfl (eff_move rfl rfl) ?_
                  refine aops_e (w0 rfl) rfl (eff_move rfl rfl) ?_
                  refine aops_e (w0 rfl) rfl (eff_move rfl rfl) ?_
                  refine aops_callP [_] _ (w0 rfl) rfl rfl rfl rfl (perm_get (k := 0) rfl) (ih (v8.2.1 - x.2.1) (by omega) _ (by omega) x.2.1 v8.2.1 _ (Nat.le_refl _) (by omega) (by omega) (hJ4.bd.le (by omega))) (fun v9 hv9 => ?_)
                  refine aops_nil ?_
                  refine awp_region ?_
                  refine aops_e (w0 rfl) rfl (eff_move rfl rfl) ?_
                  refine aops_e (w0 rfl) rfl (eff_arith rfl rfl rfl (arith_add (by first | omega | (simp only [List.length_map]; omega)))) ?_
                  refine aops_e (w0 rfl) rfl (eff_assign rfl rfl) ?_
                  refine aops_nil ?_
                  refine ⟨(v9, v8.2.1 + 1, x.2.2.1, IntKind.i64.wrap (x.2.2.2.1 - 1), wb, v8.2.2), (hJ4.lower sLtT.ok (by omega) hmid hv8.2.2.2 hv9.1 hv9.2), (by (try simp only) <;> omega), ?_⟩
                  exact weak_pick [0] ⟨rfl, rfl, rfl, rfl, rfl, rfl, rfl, trivial⟩ rfl (by decide) rfl rfl
                · intro hc
                  refine awp_seq ?_
                  refine awp_region ?_
                  refine aops_e (w0 rfl) rfl (eff_move rfl rfl) ?_
                  refine aops_e (w0 rfl) rfl (eff_move rfl rfl) ?_
                  refine aops_e (w0 rfl) rfl (eff_icmp rfl rfl rfl rfl) ?_
                  refine aops_e (w0 rfl) rfl (eff_assign rfl rfl) ?_
                  refine aops_nil ?_
                  refine awp_seq ?_
                  refine awp_genB 10 rfl (fun wb hwb => ?_)
                  refine awp_region ?_
                  refine aops_e (w0 rfl) rfl (eff_move rfl rfl) ?_
                  refine aops_e (w0 rfl) rfl (eff_move rfl rfl) ?_
                  refine aops_e (w0 rfl) rfl (eff_arith rfl rfl rfl (arith_add (by first | omega | (simp only [List.length_map]; omega)))) ?_
                  refine aops_e (w0 rfl) rfl (eff_move rfl rfl) ?_
                  refine aops_e (w0 rfl) rfl (eff_move rfl rfl) ?_
                  refine aops_e (w0 rfl) rfl (eff_move rfl rfl) ?_
                  refine aops_callP [_] _ (w0 rfl) rfl rfl rfl rfl (perm_get (k := 0) rfl) (ih (x.2.2.1 - (v8.2.1 + 1)) (by omega) _ (by omega) (v8.2.1 + 1) x.2.2.1 _ (Nat.le_refl _) (by omega) (by omega) hv8.2.2.2.bd) (fun v10 hv10 => ?_)
                  refine aops_nil ?_
                  refine awp_region ?_
                  refine aops_e (w0 rfl) rfl (eff_move rfl rfl) ?_
                  refine aops_e (w0 rfl) rfl (eff_assign rfl rfl) ?_
                  refine aops_nil ?_
                  refine ⟨(v10, x.2.1, v8.2.1, IntKind.i64.wrap (x.2.2.2.1 - 1), wb, v8.2.2), (hJ4.upper sLtT.ok (by omega) hmid hv8.2.2.2 hv10.1 hv10.2), (by (try simp only) <;> omega), ?_⟩
                  exact weak_pick [0] ⟨rfl, rfl, rfl, rfl, rfl, rfl, rfl, trivial⟩ rfl (by decide) rfl rfl
          · intro hc
            have hJ3 := hJ2
            have hl3 := hJ3.sw.len
            refine awp_skip ?_
            refine awp_seq ?_
            refine awp_seq ?_
            refine awp_drawM [0, 1, 3, 7, 7, 7, 39, 119, 247, 7, 7, 1543, 3591, 8191, 16383, 32767, 65535] 17 rfl (by kernel_rfl) ?_
            refine calm_e (w0 rfl) rfl (eff_move rfl rfl) ?_
            refine calm_e (w0 rfl) rfl (eff_icmp rfl rfl rfl rfl) ?_
            refine calm_e (w0 rfl) rfl (eff_move rfl rfl) ?_
            refine calm_g (wT rfl rfl rfl rfl) rfl (fun hg => (eff_move rfl rfl)) ?_
            refine calm_g (wT rfl rfl rfl rfl) rfl (fun hg => (eff_move rfl rfl)) ?_
            refine calm_g (wT rfl rfl rfl rfl) rfl (fun hg => (eff_move rfl rfl)) ?_
            refine calm_g (wT rfl rfl rfl rfl) rfl (fun hg => (eff_arith rfl (ev_g hg rfl) rfl (arith_sub (by first | omega | (simp only [List.length_map]; omega))))) ?_
            refine calm_g (wT rfl rfl rfl rfl) rfl (fun hg => (eff_indexAddr_ownN (x.2.1 - 1) rfl (ev_g hg rfl) (ev_g hg rfl) (by (try simp at hg) <;> first | omega | (simp only [List.length_map]; omega) | (simp only [List.length_map, List.length_drop]; omega)) (by (try simp at hg) <;> first | omega | (simp only [List.length_map]; omega) | (simp only [List.length_map, List.length_drop]; omega)) (by omega))) ?_
            refine calm_gloadC (f := Site.cells) 0 (wT rfl rfl rfl rfl) rfl rfl (fun hg => (ev_g hg rfl)) rfl (fun hg => by (try simp at hg) <;> (first | assumption | omega | (simp only [List.length_drop]; omega))) (fun _ => ld_aggC rfl) ?_
            refine calm_g (wT rfl rfl rfl rfl) rfl (fun hg => (eff_move rfl rfl)) ?_
            refine calm_g (wT rfl rfl rfl rfl) rfl (fun hg => (eff_move rfl rfl)) ?_
            refine calm_g (wT rfl rfl rfl rfl) rfl (fun hg => (eff_indexAddr_ownN p2 rfl (ev_g hg rfl) (ev_g hg rfl) (by (try simp at hg) <;> first | omega | (simp only [List.length_map]; omega) | (simp only [List.length_map, List.length_drop]; omega)) (by (try simp at hg) <;> first | omega | (simp only [List.length_map]; omega) | (simp only [List.length_map, List.length_drop]; omega)) (by omega))) ?_
            refine calm_gloadC (f := Site.cells) 0 (wT rfl rfl rfl rfl) rfl rfl (fun hg => (ev_g hg rfl)) rfl (fun hg => by (try simp at hg) <;> (first | assumption | omega | (simp only [List.length_drop]; omega))) (fun _ => ld_aggC rfl) ?_
            refine calm_g (wT rfl rfl rfl rfl) rfl (fun hg => (eff_call [] rfl (ev_g hg rfl) (evs_cons (ev_g hg rfl) (evs_cons (ev_g hg rfl) evs_nil)) (c_cmpSite _ _) List.nodup_nil)) ?_
            refine calm_g (wT rfl rfl rfl rfl) rfl (fun hg => (eff_icmp rfl (ev_g hg rfl) rfl rfl)) ?_
            refine calm_g (wT rfl rfl rfl rfl) rfl (fun hg => (eff_not rfl (ev_g hg rfl))) ?_
            refine calm_e (w0 rfl) rfl (eff_and rfl rfl rfl (fun h => h)) ?_
            refine .done ?_
            refine aops_nil ?_
            refine awp_cond rfl ?_ ?_
            · intro hc
              have ha0 : 0 < x.2.1 := by have := andL hc; simpa using this
              have hpe := notT (andR hc)
              refine awp_seq ?_
              refine awp_region ?_
              refine aops_e (w0 rfl) rfl (eff_move rfl rfl) ?_
              refine aops_e (w0 rfl) rfl (eff_move rfl rfl) ?_
              refine aops_e (w0 rfl) rfl (eff_move rfl rfl) ?_
              refine aops_e (w0 rfl) rfl (eff_move rfl rfl) ?_
              refine aops_e (w0 rfl) rfl (eff_move rfl rfl) ?_
              refine aops_callP [_] _ (w0 rfl) rfl rfl rfl rfl (perm_get (k := 0) rfl) (c_partEF q n _ (by omega) hN x.2.1 x.2.2.1 p2 hp2'.1 hp2'.2 (by omega)) (fun v11 hv11 => ?_)
              refine aops_e (w0 rfl) rfl (eff_assign rfl rfl) ?_
              refine aops_nil ?_
              refine awp_seq ?_
              refine awp_region ?_
              refine aops_e (w0 rfl) rfl (eff_move rfl rfl) ?_
              refine aops_e (w0 rfl) rfl (eff_assign rfl rfl) ?_
              refine aops_nil ?_
              refine awp_exit ?_
              refine ⟨(v11.1, v11.2, x.2.2.1, IntKind.i64.wrap (x.2.2.2.1 - 1), x.2.2.2.2.1, x.2.2.2.2.2), (by obtain ⟨j, e, he⟩ := hv11.2.2.2.2; exact (hJ3.move (by omega) hv11.1).equal sLtT.ok (by omega) ha0 (by rw [hv11.1.out (.inl (by omega)), hv11.2.2.2.1]; exact hpe) he e hv11.2.1 hv11.2.2.1), (by (try simp only) <;> (have := hv11.2.1; omega)), ?_⟩
              exact weak_pick [0] ⟨rfl, rfl, rfl, rfl, rfl, rfl, rfl, trivial⟩ rfl (by decide) rfl rfl
            · intro hc
              refine awp_skip ?_
              refine awp_seq ?_
              refine awp_region ?_
              refine aops_e (w0 rfl) rfl (eff_move rfl rfl) ?_
              refine aops_e (w0 rfl) rfl (eff_move rfl rfl) ?_
              refine aops_e (w0 rfl) rfl (eff_move rfl rfl) ?_
              refine aops_e (w0 rfl) rfl (eff_move rfl rfl) ?_
              refine aops_e (w0 rfl) rfl (eff_move rfl rfl) ?_
              refine aops_callP [_] _ (w0 rfl) rfl rfl rfl rfl (perm_get (k := 0) rfl) (c_partF q n _ (by omega) hN x.2.1 x.2.2.1 p2 hp2'.1 hp2'.2 (by omega)) (fun v12 hv12 => ?_)
              refine aops_e (w0 rfl) rfl (eff_move rfl rfl) ?_
              refine aops_e (w0 rfl) rfl (eff_extract rfl rfl rfl) ?_
              refine aops_e (w0 rfl) rfl (eff_extract rfl rfl rfl) ?_
              refine aops_e (w0 rfl) rfl (eff_assign rfl rfl) ?_
              refine aops_e (w0 rfl) rfl (eff_assign rfl rfl) ?_
              refine aops_nil ?_
              refine awp_seq ?_
              refine awp_region ?_
              refine aops_e (w0 rfl) rfl (eff_move rfl rfl) ?_
              refine aops_e (w0 rfl) rfl (eff_assign rfl rfl) ?_
              refine aops_nil ?_
              refine awp_seq ?_
              have hJ4 := hJ3.move (by omega) hv12.1
              have hl4 := hJ4.sw.len
              have hmid : x.2.1 ≤ v12.2.1 ∧ v12.2.1 < x.2.2.1 := ⟨hv12.2.1, hv12.2.2.1⟩
              refine awp_region ?_
              refine aops_e (w0 rfl) rfl (eff_move rfl rfl) ?_
              refine aops_e (w0 rfl) rfl (eff_move rfl rfl) ?_
              refine aops_e (w0 rfl) rfl (eff_arith rfl rfl rfl (arith_sub (by first | omega | (simp only [List.length_map]; omega)))) ?_
              refine aops_e (w0 rfl) rfl (eff_move rfl rfl) ?_
              refine aops_e (w0 rfl) rfl (eff_move rfl rfl) ?_
              refine aops_e (w0 rfl) rfl (eff_arith rfl rfl rfl (arith_sub (by first | omega | (simp only [List.length_map]; omega)))) ?_
              refine aops_e (w0 rfl) rfl (eff_assign rfl rfl) ?_
              refine aops_e (w0 rfl) rfl (eff_assign rfl rfl) ?_
              refine aops_nil ?_
              refine awp_seq ?_
              refine awp_region ?_
              refine aops_e (w0 rfl) rfl (eff_move rfl rfl) ?_
              refine aops_e (w0 rfl) rfl (eff_to (y := iA ((x.2.2.1 - x.2.1) / 8 : Nat)) (eff_quo rfl rfl rfl (by decide) (tdivN_ok (x.2.2.1 - x.2.1) 8 (by omega))) (congrArg iA (tdivN (x.2.2.1 - x.2.1) 8))) ?_
              refine aops_e (w0 rfl) rfl (eff_assign rfl rfl) ?_
              refine aops_nil ?_
              refine awp_seq ?_
              refine awp_region ?_
              refine aops_e (w0 rfl) rfl (eff_move rfl rfl) ?_
              refine aops_e (w0 rfl) rfl (eff_move rfl rfl) ?_
              refine aops_e (w0 rfl) rfl (eff_icmp rfl rfl rfl rfl) ?_
              refine aops_nil ?_
              refine awp_cond rfl ?_ ?_
              · intro hc
                refine awp_seq ?_
                refine awp_region ?_
                refine aops_e (w0 rfl) rfl (eff_move rfl rfl) ?_
                refine aops_e (w0 rfl) rfl (eff_move rfl rfl) ?_
                refine aops_e (w0 rfl) rfl (eff_icmp rfl rfl rfl rfl) ?_
                refine aops_e (w0 rfl) rfl (eff_assign rfl rfl) ?_
                refine aops_nil ?_
                refine awp_seq ?_
                refine awp_genB 10 rfl (fun wb hwb => ?_)
                refine awp_region ?_
                refine aops_e (w0 rfl) rfl (eff_move rfl rfl) ?_
                refine aops_e (w0 rfl) rfl (eff_move rfl rfl) ?_
                refine aops_e (w0 rfl) rfl (eff_move rfl rfl) ?_
                refine aops_e (w0 rfl) rfl (eff_move rfl rfl) ?_
                refine aops_e (w0 rfl) rfl (eff_move rfl rfl) ?_
                refine aops_callP [_] _ (w0 rfl) rfl rfl rfl rfl (perm_get (k := 0) rfl) (ih (v12.2.1 - x.2.1) (by omega) _ (by omega) x.2.1 v12.2.1 _ (Nat.le_refl _) (by omega) (by omega) (hJ4.bd.le (by omega))) (fun v13 hv13 => ?_)
                refine aops_nil ?_
                refine awp_region ?_
                refine aops_e (w0 rfl) rfl (eff_move rfl rfl) ?_
                refine aops_e (w0 rfl) rfl (eff_arith rfl rfl rfl (arith_add (by first | omega | (simp only [List.length_map]; omega)))) ?_
                refine aops_e (w0 rfl) rfl (eff_assign rfl rfl) ?_
                refine aops_nil ?_
                refine ⟨(v13, v12.2.1 + 1, x.2.2.1, IntKind.i64.wrap (x.2.2.2.1 - 1), wb, v12.2.2), (hJ4.lower sLtT.ok (by omega) hmid hv12.2.2.2 hv13.1 hv13.2), (by (try simp only) <;> omega), ?_⟩
                exact weak_pick [0] ⟨rfl, rfl, rfl, rfl, rfl, rfl, rfl, trivial⟩ rfl (by decide) rfl rfl
              · intro hc
                refine awp_seq ?_
                refine awp_region ?_
                refine aops_e (w0 rfl) rfl (eff_move rfl rfl) ?_
                refine aops_e (w0 rfl) rfl (eff_move rfl rfl) ?_
                refine aops_e (w0 rfl) rfl (eff_icmp rfl rfl rfl rfl) ?_
                refine aops_e (w0 rfl) rfl (eff_assign rfl rfl) ?_
                refine aops_nil ?_
                refine awp_seq ?_
                refine awp_genB 10 rfl (fun wb hwb => ?_)
                refine awp_region ?_
                refine aops_e (w0 rfl) rfl (eff_move rfl rfl) ?_
                refine aops_e (w0 rfl) rfl (eff_move rfl rfl) ?_
                refine aops_e (w0 rfl) rfl (eff_arith rfl rfl rfl (arith_add (by first | omega | (simp only [List.length_map]; omega)))) ?_
                refine aops_e (w0 rfl) rfl (eff_move rfl rfl) ?_
                refine aops_e (w0 rfl) rfl (eff_move rfl rfl) ?_
                refine aops_e (w0 rfl) rfl (eff_move rfl rfl) ?_
                refine aops_callP [_] _ (w0 rfl) rfl rfl rfl rfl (perm_get (k := 0) rfl) (ih (x.2.2.1 - (v12.2.1 + 1)) (by omega) _ (by omega) (v12.2.1 + 1) x.2.2.1 _ (Nat.le_refl _) (by omega) (by omega) hv12.2.2.2.bd) (fun v14 hv14 => ?_)
                refine aops_nil ?_
                refine awp_region ?_
                refine aops_e (w0 rfl) rfl (eff_move rfl rfl) ?_
                refine aops_e (w0 rfl) rfl (eff_assign rfl rfl) ?_
                refine aops_nil ?_
                refine ⟨(v14, x.2.1, v12.2.1, IntKind.i64.wrap (x.2.2.2.1 - 1), wb, v12.2.2), (hJ4.upper sLtT.ok (by omega) hmid hv12.2.2.2 hv14.1 hv14.2), (by (try simp only) <;> omega), ?_⟩
                exact weak_pick [0] ⟨rfl, rfl, rfl, rfl, rfl, rfl, rfl, trivial⟩ rfl (by decide) rfl rfl
        · intro hc
          have hJ2 := hJ1
          refine awp_skip ?_
          refine awp_seq ?_
          refine awp_seq ?_
          refine awp_genN 13 rfl (fun p2 hp2 => ?_)
          have hp2' : x.2.1 ≤ p2 ∧ p2 < x.2.2.1 := by omega
          refine awp_region ?_
          refine aops_e (w0 rfl) rfl (eff_move rfl rfl) ?_
          refine aops_e (w0 rfl) rfl (eff_move rfl rfl) ?_
          refine aops_g (wT rfl rfl rfl rfl) rfl (fun hg => (eff_move rfl rfl)) ?_
          refine aops_e (w0 rfl) rfl (eff_and rfl rfl rfl (fun h => h)) ?_
          refine aops_e (w0 rfl) rfl (eff_move rfl rfl) ?_
          refine aops_g (wT rfl rfl rfl rfl) rfl (fun hg => (eff_move rfl rfl)) ?_
          refine aops_g (wT rfl rfl rfl rfl) rfl (fun hg => (eff_icmp rfl (ev_g hg rfl) rfl rfl)) ?_
          refine aops_e (w0 rfl) rfl (eff_and rfl rfl rfl (fun h => h)) ?_
          refine aops_nil ?_
          refine awp_cond rfl ?_ ?_
          · intro hc
            refine awp_seq ?_
            refine awp_region ?_
            refine aops_e (w0 rfl) rfl (eff_move rfl rfl) ?_
            refine aops_e (w0 rfl) rfl (eff_move rfl rfl) ?_
            refine aops_e (w0 rfl) rfl (eff_move rfl rfl) ?_
            refine aops_e (w0 rfl) rfl (eff_move rfl rfl) ?_
            refine aops_callP [_] _ (w0 rfl) rfl rfl rfl rfl (perm_get (k := 0) rfl) (c_partialF q n _ (by have := hJ2.sw.len; omega) hN x.2.1 x.2.2.1 (by omega) (by omega) hJ2.bd) (fun v15 hv15 => ?_)
            have hJ3 := hJ2.move (by omega) hv15.1
            refine aops_nil ?_
            refine awp_cond rfl ?_ ?_
            · intro hc
              refine awp_ret ?_
              exact retq_keep rfl res_nil (.cons_cons _ .slnil) (gp v15.1 ⟨hJ3.sw, hJ2.fin _ hv15.1 ((hv15.2 hc).on sLtT.ok)⟩ rfl rfl)
            · intro hc
              have hl3 := hJ3.sw.len
              refine awp_skip ?_
              refine awp_seq ?_
              refine awp_seq ?_
              refine awp_drawM [0, 1, 3, 7, 7, 7, 39, 119, 247, 7, 7, 1543, 3591, 8191, 16383, 32767, 65535] 17 rfl (by kernel_rfl) ?_
              refine calm_e (w0 rfl) rfl (eff_move rfl rfl) ?_
              refine calm_e (w0 rfl) rfl (eff_icmp rfl rfl rfl rfl) ?_
              refine calm_e (w0 rfl) rfl (eff_move rfl rfl) ?_
              refine calm_g (wT rfl rfl rfl rfl) rfl (fun hg => (eff_move rfl rfl)) ?_
              refine calm_g (wT rfl rfl rfl rfl) rfl (fun hg => (eff_move rfl rfl)) ?_
              refine calm_g (wT rfl rfl rfl rfl) rfl (fun hg => (eff_move rfl rfl)) ?_
              refine calm_g (wT rfl rfl rfl rfl) rfl (fun hg => (eff_arith rfl (ev_g hg rfl) rfl (arith_sub (by first | omega | (simp only [List.length_map]; omega))))) ?_
              refine calm_g (wT rfl rfl rfl rfl) rfl (fun hg => (eff_indexAddr_ownN (x.2.1 - 1) rfl (ev_g hg rfl) (ev_g hg rfl) (by (try simp at hg) <;> first | omega | (simp only [List.length_map]; omega) | (simp only [List.length_map, List.length_drop]; omega)) (by (try simp at hg) <;> first | omega | (simp only [List.length_map]; omega) | (simp only [List.length_map, List.length_drop]; omega)) (by omega))) ?_
              refine calm_gloadC (f := Site.cells) 0 (wT rfl rfl rfl rfl) rfl rfl (fun hg => (ev_g hg rfl)) rfl (fun hg => by (try simp at hg) <;> (first | assumption | omega | (simp only [List.length_drop]; omega))) (fun _ => ld_aggC rfl) ?_
              refine calm_g (wT rfl rfl rfl rfl) rfl (fun hg => (eff_move rfl rfl)) ?_
              refine calm_g (wT rfl rfl rfl rfl) rfl (fun hg => (eff_move rfl rfl)) ?_
              refine calm_g (wT rfl rfl rfl rfl) rfl (fun hg => (eff_indexAddr_ownN p2 rfl (ev_g hg rfl) (ev_g hg rfl) (by (try simp at hg) <;> first | omega | (simp only [List.length_map]; omega) | (simp only [List.length_map, List.length_drop]; omega)) (by (try simp at hg) <;> first | omega | (simp only [List.length_map]; omega) | (simp only [List.length_map, List.length_drop]; omega)) (by omega))) ?_
              refine calm_gloadC (f := Site.cells) 0 (wT rfl rfl rfl rfl) rfl rfl (fun hg => (ev_g hg rfl)) rfl (fun hg => by (try simp at hg) <;> (first | assumption | omega | (simp only [List.length_drop]; omega))) (fun _ => ld_aggC rfl) ?_
              refine calm_g (wT rfl rfl rfl rfl) rfl (fun hg => (eff_call [] rfl (ev_g hg rfl) (evs_cons (ev_g hg rfl) (evs_cons (ev_g hg rfl) evs_nil)) (c_cmpSite _ _) List.nodup_nil)) ?_
              refine calm_g (wT rfl rfl rfl rfl) rfl (fun hg => (eff_icmp rfl (ev_g hg rfl) rfl rfl)) ?_
              refine calm_g (wT rfl rfl rfl rfl) rfl (fun hg => (eff_not rfl (ev_g hg rfl))) ?_
              refine calm_e (w0 rfl) rfl (eff_and rfl rfl rfl (fun h => h)) ?_
              refine .done ?_
              refine aops_nil ?_
              refine awp_cond rfl ?_ ?_
              · intro hc
                have ha0 : 0 < x.2.1 := by have := andL hc; simpa using this
                have hpe := notT (andR hc)
                refine awp_seq ?_
                refine awp_region ?_
                refine aops_e (w0 rfl) rfl (eff_move rfl rfl) ?_
                refine aops_e (w0 rfl) rfl (eff_move rfl rfl) ?_
                refine aops_e (w0 rfl) rfl (eff_move rfl rfl) ?_
                refine aops_e (w0 rfl) rfl (eff_move rfl rfl) ?_
                refine aops_e (w0 rfl) rfl (eff_move rfl rfl) ?_
                refine aops_callP [_] _ (w0 rfl) rfl rfl rfl rfl (perm_get (k := 0) rfl) (c_partEF q n _ (by omega) hN x.2.1 x.2.2.1 p2 hp2'.1 hp2'.2 (by omega)) (fun v16 hv16 => ?_)
                refine aops_e (w0 rfl) rfl (eff_assign rfl rfl) ?_
                refine aops_nil ?_
                refine awp_seq ?_
                refine awp_region ?_
                refine aops_e (w0 rfl) rfl (eff_move rfl rfl) ?_
                refine aops_e (w0 rfl) rfl (eff_assign rfl rfl) ?_
                refine aops_nil ?_
                refine awp_exit ?_
                refine ⟨(v16.1, v16.2, x.2.2.1, IntKind.i64.wrap (x.2.2.2.1 - 1), x.2.2.2.2.1, x.2.2.2.2.2), (by obtain ⟨j, e, he⟩ := hv16.2.2.2.2; exact (hJ3.move (by omega) hv16.1).equal sLtT.ok (by omega) ha0 (by rw [hv16.1.out (.inl (by omega)), hv16.2.2.2.1]; exact hpe) he e hv16.2.1 hv16.2.2.1), (by (try simp only) <;> (have := hv16.2.1; omega)), ?_⟩
                exact weak_pick [0] ⟨rfl, rfl, rfl, rfl, rfl, rfl, rfl, trivial⟩ rfl (by decide) rfl rfl
              · intro hc
                refine awp_skip ?_
                refine awp_seq ?_
                refine awp_region ?_
                refine aops_e (w0 rfl) rfl (eff_move rfl rfl) ?_
                refine aops_e (w0 rfl) rfl (eff_move rfl rfl) ?_
                refine aops_e (w0 rfl) rfl (eff_move rfl rfl) ?_
                refine aops_e (w0 rfl) rfl (eff_move rfl rfl) ?_
                refine aops_e (w0 rfl) rfl (eff_move rfl rfl) ?_
                refine aops_callP [_] _ (w0 rfl) rfl rfl rfl rfl (perm_get (k := 0) rfl) (c_partF q n _ (by omega) hN x.2.1 x.2.2.1 p2 hp2'.1 hp2'.2 (by omega)) (fun v17 hv17 => ?_)
                refine aops_e (w0 rfl) rfl (eff_move rfl rfl) ?_
                refine aops_e (w0 rfl) rfl (eff_extract rfl rfl rfl) ?_
                refine aops_e (w0 rfl) rfl (eff_extract rfl rfl rfl) ?_
                refine aops_e (w0 rfl) rfl (eff_assign rfl rfl) ?_
                refine aops_e (w0 rfl) rfl (eff_assign rfl rfl) ?_
                refine aops_nil ?_
                refine awp_seq ?_
                refine awp_region ?_
                refine aops_e (w0 rfl) rfl (eff_move rfl rfl) ?_
                refine aops_e (w0 rfl) rfl (eff_assign rfl rfl) ?_
                refine aops_nil ?_
                refine awp_seq ?_
                have hJ4 := hJ3.move (by omega) hv17.1
                have hl4 := hJ4.sw.len
                have hmid : x.2.1 ≤ v17.2.1 ∧ v17.2.1 < x.2.2.1 := ⟨hv17.2.1, hv17.2.2.1⟩
                refine awp_region ?_
                refine aops_e (w0 rfl) rfl (eff_move rfl rfl) ?_
                refine aops_e (w0 rfl) rfl (eff_move rfl rfl) ?_
                refine aops_e (w0 rfl) rfl (eff_arith rfl rfl rfl (arith_sub (by first | omega | (simp only [List.length_map]; omega)))) ?_
                refine aops_e (w0 rfl) rfl (eff_move rfl rfl) ?_
                refine aops_e (w0 rfl) rfl (eff_move rfl rfl) ?_
                refine aops_e (w0 rfl) rfl (eff_arith rfl rfl rfl (arith_sub (by first | omega | (simp only [List.length_map]; omega)))) ?_
                refine aops_e (w0 rfl) rfl (eff_assign rfl rfl) ?_
                refine aops_e (w0 rfl) rfl (eff_assign rfl rfl) ?_
                refine aops_nil ?_
                refine awp_seq ?_
                refine awp_region ?_
                refine aops_e (w0 rfl) rfl (eff_move rfl rfl) ?_
                refine aops_e (w0 rfl) rfl (eff_to (y := iA ((x.2.2.1 - x.2.1) / 8 : Nat)) (eff_quo rfl rfl rfl (by decide) (tdivN_ok (x.2.2.1 - x.2.1) 8 (by omega))) (congrArg iA (tdivN (x.2.2.1 - x.2.1) 8))) ?_
                refine aops_e (w0 rfl) rfl (eff_assign rfl rfl) ?_
                refine aops_nil ?_
                refine awp_seq ?_
                refine awp_region ?_
                refine aops_e (w0 rfl) rfl (eff_move rfl rfl) ?_
                refine aops_e (w0 rfl) rfl (eff_move rfl rfl) ?_
                refine aops_e (w0 rfl) rfl (eff_icmp rfl rfl rfl rfl) ?_
                refine aops_nil ?_
                refine awp_cond rfl ?_ ?_
                · intro hc
                  refine awp_seq ?_
                  refine awp_region ?_
                  refine aops_e (w0 rfl) rfl (eff_move rfl rfl) ?_
                  refine aops_e (w0 rfl) rfl (eff_move rfl rfl) ?_
                  refine aops_e (w0 rfl) rfl (eff_icmp rfl rfl rfl rfl) ?_
                  refine aops_e (w0 rfl) rfl (eff_assign rfl rfl) ?_
                  refine aops_nil ?_
                  refine awp_seq ?_
                  refine awp_genB 10 rfl (fun wb hwb => ?_)
                  refine awp_region ?_
                  refine aops_e (w0 rfl) rfl (eff_move rfl rfl) ?_
                  refine aops_e (w0 rfl) rfl (eff_move rfl rfl) ?_
                  refine aops_e (w0 rfl) rfl (eff_move rfl rfl) ?_
                  refine aops_e (w0 rfl) rfl (eff_move rfl rfl) ?_
                  refine aops_e (w0 rfl) rfl (eff_move rfl rfl) ?_
                  refine aops_callP [_] _ (w0 rfl) rfl rfl rfl rfl (perm_get (k := 0) rfl) (ih (v17.2.1 - x.2.1) (by omega) _ (by omega) x.2.1 v17.2.1 _ (Nat.le_refl _) (by omega) (by omega) (hJ4.bd.le (by omega))) (fun v18 hv18 => ?_)
                  refine aops_nil ?_
                  refine awp_region ?_
                  refine aops_e (w0 rfl) rfl (eff_move rfl rfl) ?_
                  refine aops_e (w0 rfl) rfl (eff_arith rfl rfl rfl (arith_add (by first | omega | (simp only [List.length_map]; omega)))) ?_
                  refine aops_e (w0 rfl) rfl (eff_assign rfl rfl) ?_
                  refine aops_nil ?_
                  refine ⟨(v18, v17.2.1 + 1, x.2.2.1, IntKind.i64.wrap (x.2.2.2.1 - 1), wb, v17.2.2), (hJ4.lower sLtT.ok (by omega) hmid hv17.2.2.2 hv18.1 hv18.2), (by (try simp only) <;> omega), ?_⟩
                  exact weak_pick [0] ⟨rfl, rfl, rfl, rfl, rfl, rfl, rfl, trivial⟩ rfl (by decide) rfl rfl
                · intro hc
                  refine awp_seq ?_
                  refine awp_region ?_
                  refine aops_e (w0 rfl) rfl (eff_move rfl rfl) ?_
                  refine aops_e (w0 rfl) rfl (eff_move rfl rfl) ?_
                  refine aops_e (w0 rfl) rfl (eff_icmp rfl rfl rfl rfl) ?_
                  refine aops_e (w0 rfl) rfl (eff_assign rfl rfl) ?_
                  refine aops_nil ?_
                  refine awp_seq ?_
                  refine awp_genB 10 rfl (fun wb hwb => ?_)
                  refine awp_region ?_
                  refine aops_e (w0 rfl) rfl (eff_move rfl rfl) ?_
                  refine aops_e (w0 rfl) rfl (eff_move rfl rfl) ?_
                  refine aops_e (w0 rfl) rfl (eff_arith rfl rfl rfl (arith_add (by first | omega | (simp only [List.length_map]; omega)))) ?_
                  refine aops_e (w0 rfl) rfl (eff_move rfl rfl) ?_
                  refine aops_e (w0 rfl) rfl (eff_move rfl rfl) ?_
                  refine aops_e (w0 rfl) rfl (eff_move rfl rfl) ?_
                  refine aops_callP [_] _ (w0 rfl) rfl rfl rfl rfl (perm_get (k := 0) rfl) (ih (x.2.2.1 - (v17.2.1 + 1)) (by omega) _ (by omega) (v17.2.1 + 1) x.2.2.1 _ (Nat.le_refl _) (by omega) (by omega) hv17.2.2.2.bd) (fun v19 hv19 => ?_)
                  refine aops_nil ?_
                  refine awp_region ?_
                  refine aops_e (w0 rfl) rfl (eff_move rfl rfl) ?_
                  refine aops_e (w0 rfl) rfl (eff_assign rfl rfl) ?_
                  refine aops_nil ?_
                  refine ⟨(v19, x.2.1, v17.2.1, IntKind.i64.wrap (x.2.2.2.1 - 1), wb, v17.2.2), (hJ4.upper sLtT.ok (by omega) hmid hv17.2.2.2 hv19.1 hv19.2), (by (try simp only) <;> omega), ?_⟩
                  exact weak_pick [0] ⟨rfl, rfl, rfl, rfl, rfl, rfl, rfl, trivial⟩ rfl (by decide) rfl rfl
          · intro hc
            have hJ3 := hJ2
            have hl3 := hJ3.sw.len
            refine awp_skip ?_
            refine awp_seq ?_
            refine awp_seq ?_
            refine awp_drawM [0, 1, 3, 7, 7, 7, 39, 119, 247, 7, 7, 1543, 3591, 8191, 16383, 32767, 65535] 17 rfl (by kernel_rfl) ?_
            refine calm_e (w0 rfl) rfl (eff_move rfl rfl) ?_
            refine calm_e (w0 rfl) rfl (eff_icmp rfl rfl rfl rfl) ?_
            refine calm_e (w0 rfl) rfl (eff_move rfl rfl) ?_
            refine calm_g (wT rfl rfl rfl rfl) rfl (fun hg => (eff_move rfl rfl)) ?_
            refine calm_g (wT rfl rfl rfl rfl) rfl (fun hg => (eff_move rfl rfl)) ?_
            refine calm_g (wT rfl rfl rfl rfl) rfl (fun hg => (eff_move rfl rfl)) ?_
            refine calm_g (wT rfl rfl rfl rfl) rfl (fun hg => (eff_arith rfl (ev_g hg rfl) rfl (arith_sub (by first | omega | (simp only [List.length_map]; omega))))) ?_
            refine calm_g (wT rfl rfl rfl rfl) rfl (fun hg => (eff_indexAddr_ownN (x.2.1 - 1) rfl (ev_g hg rfl) (ev_g hg rfl) (by (try simp at hg) <;> first | omega | (simp only [List.length_map]; omega) | (simp only [List.length_map, List.length_drop]; omega)) (by (try simp at hg) <;> first | omega | (simp only [List.length_map]; omega) | (simp only [List.length_map, List.length_drop]; omega)) (by omega))) ?_
            refine calm_gloadC (f := Site.cells) 0 (wT rfl rfl rfl rfl) rfl rfl (fun hg => (ev_g hg rfl)) rfl (fun hg => by (try simp at hg) <;> (first | assumption | omega | (simp only [List.length_drop]; omega))) (fun _ => ld_aggC rfl) ?_
            refine calm_g (wT rfl rfl rfl rfl) rfl (fun hg => (eff_move rfl rfl)) ?_
            refine calm_g (wT rfl rfl rfl rfl) rfl (fun hg => (eff_move rfl rfl)) ?_
            refine calm_g (wT rfl rfl rfl rfl) rfl (fun hg => (eff_indexAddr_ownN p2 rfl (ev_g hg rfl) (ev_g hg rfl) (by (try simp at hg) <;> first | omega | (simp only [List.length_map]; omega) | (simp only [List.length_map, List.length_drop]; omega)) (by (try simp at hg) <;> first | omega | (simp only [List.length_map]; omega) | (simp only [List.length_map, List.length_drop]; omega)) (by omega))) ?_
            refine calm_gloadC (f := Site.cells) 0 (wT rfl rfl rfl rfl) rfl rfl (fun hg => (ev_g hg rfl)) rfl (fun hg => by (try simp at hg) <;> (first | assumption | omega | (simp only [List.length_drop]; omega))) (fun _ => ld_aggC rfl) ?_
            refine calm_g (wT rfl rfl rfl rfl) rfl (fun hg => (eff_call [] rfl (ev_g hg rfl) (evs_cons (ev_g hg rfl) (evs_cons (ev_g hg rfl) evs_nil)) (c_cmpSite _ _) List.nodup_nil)) ?_
            refine calm_g (wT rfl rfl rfl rfl) rfl (fun hg => (eff_icmp rfl (ev_g hg rfl) rfl rfl)) ?_
            refine calm_g (wT rfl rfl rfl rfl) rfl (fun hg => (eff_not rfl (ev_g hg rfl))) ?_
            refine calm_e (w0 rfl) rfl (eff_and rfl rfl rfl (fun h => h)) ?_
            refine .done ?_
            refine aops_nil ?_
            refine awp_cond rfl ?_ ?_
            · intro hc
              have ha0 : 0 < x.2.1 := by have := andL hc; simpa using this
              have hpe := notT (andR hc)
              refine awp_seq ?_
              refine awp_region ?_
              refine aops_e (w0 rfl) rfl (eff_move rfl rfl) ?_
              refine aops_e (w0 rfl) rfl (eff_move rfl rfl) ?_
              refine aops_e (w0 rfl) rfl (eff_move rfl rfl) ?_
              refine aops_e (w0 rfl) rfl (eff_move rfl rfl) ?_
              refine aops_e (w0 rfl) rfl (eff_move rfl rfl) ?_
              refine aops_callP [_] _ (w0 rfl) rfl rfl rfl rfl (perm_get (k := 0) rfl) (c_partEF q n _ (by omega) hN x.2.1 x.2.2.1 p2 hp2'.1 hp2'.2 (by omega)) (fun v20 hv20 => ?_)
              refine aops_e (w0 rfl) rfl (eff_assign rfl rfl) ?_
              refine aops_nil ?_
              refine awp_seq ?_
              refine awp_region ?_
              refine aops_e (w0 rfl) rfl (eff_move rfl rfl) ?_
              refine aops_e (w0 rfl) rfl (eff_assign rfl rfl) ?_
              refine aops_nil ?_
              refine awp_exit ?_
              refine ⟨(v20.1, v20.2, x.2.2.1, IntKind.i64.wrap (x.2.2.2.1 - 1), x.2.2.2.2.1, x.2.2.2.2.2), (by obtain ⟨j, e, he⟩ := hv20.2.2.2.2; exact (hJ3.move (by omega) hv20.1).equal sLtT.ok (by omega) ha0 (by rw [hv20.1.out (.inl (by omega)), hv20.2.2.2.1]; exact hpe) he e hv20.2.1 hv20.2.2.1), (by (try simp only) <;> (have := hv20.2.1; omega)), ?_⟩
              exact weak_pick [0] ⟨rfl, rfl, rfl, rfl, rfl, rfl, rfl, trivial⟩ rfl (by decide) rfl rfl
            · intro hc
              refine awp_skip ?_
              refine awp_seq ?_
              refine awp_region ?_
              refine aops_e (w0 rfl) rfl (eff_move rfl rfl) ?_
              refine aops_e (w0 rfl) rfl (eff_move rfl rfl) ?_
              refine aops_e (w0 rfl) rfl (eff_move rfl rfl) ?_
              refine aops_e (w0 rfl) rfl (eff_move rfl rfl) ?_
              refine aops_e (w0 rfl) rfl (eff_move rfl rfl) ?_
              refine aops_callP [_] _ (w0 rfl) rfl rfl rfl rfl (perm_get (k := 0) rfl) (c_partF q n _ (by omega) hN x.2.1 x.2.2.1 p2 hp2'.1 hp2'.2 (by omega)) (fun v21 hv21 => ?_)
              refine aops_e (w0 rfl) rfl (eff_move rfl rfl) ?_
              refine aops_e (w0 rfl) rfl (eff_extract rfl rfl rfl) ?_
              refine aops_e (w0 rfl) rfl (eff_extract rfl rfl rfl) ?_
              refine aops_e (w0 rfl) rfl (eff_assign rfl rfl) ?_
              refine aops_e (w0 rfl) rfl (eff_assign rfl rfl) ?_
              refine aops_nil ?_
              refine awp_seq ?_
              refine awp_region ?_
              refine aops_e (w0 rfl) rfl (eff_move rfl rfl) ?_
              refine aops_e (w0 rfl) rfl (eff_assign rfl rfl) ?_
              refine aops_nil ?_
              refine awp_seq ?_
              have hJ4 := hJ3.move (by omega) hv21.1
              have hl4 := hJ4.sw.len
              have hmid : x.2.1 ≤ v21.2.1 ∧ v21.2.1 < x.2.2.1 := ⟨hv21.2.1, hv21.2.2.1⟩
              refine awp_region ?_
              refine aops_e (w0 rfl) rfl (eff_move rfl rfl) ?_
              refine aops_e (w0 rfl) rfl (eff_move rfl rfl) ?_
              refine aops_e (w0 rfl) rfl (eff_arith rfl rfl rfl (arith_sub (by first | omega | (simp only [List.length_map]; omega)))) ?_
              refine aops_e (w0 rfl) rfl (eff_move rfl rfl) ?_
              refine aops_e (w0 rfl) rfl (eff_move rfl rfl) ?_
              refine aops_e (w0 rfl) rfl (eff_arith rfl rfl rfl (arith_sub (by first | omega | (simp only [List.length_map]; omega)))) ?_
              refine aops_e (w0 rfl) rfl (eff_assign rfl rfl) ?_
              refine aops_e (w0 rfl) rfl (eff_assign rfl rfl) ?_
              refine aops_nil ?_
              refine awp_seq ?_
              refine awp_region ?_
              refine aops_e (w0 rfl) rfl (eff_move rfl rfl) ?_
              refine aops_e (w0 rfl) rfl (eff_to (y := iA ((x.2.2.1 - x.2.1) / 8 : Nat)) (eff_quo rfl rfl rfl (by decide) (tdivN_ok (x.2.2.1 - x.2.1) 8 (by omega))) (congrArg iA (tdivN (x.2.2.1 - x.2.1) 8))) ?_
              refine aops_e (w0 rfl) rfl (eff_assign rfl rfl) ?_
              refine aops_nil ?_
              refine awp_seq ?_
              refine awp_region ?_
              refine aops_e (w0 rfl) rfl (eff_move rfl rfl) ?_
              refine aops_e (w0 rfl) rfl (eff_move rfl rfl) ?_
              refine aops_e (w0 rfl) rfl (eff_icmp rfl rfl rfl rfl) ?_
              refine aops_nil ?_
              refine awp_cond rfl ?_ ?_
              · intro hc
                refine awp_seq ?_
                refine awp_region ?_
                refine aops_e (w0 rfl) rfl (eff_move rfl rfl) ?_
                refine aops_e (w0 rfl) rfl (eff_move rfl rfl) ?_
                refine aops_e (w0 rfl) rfl (eff_icmp rfl rfl rfl rfl) ?_
                refine aops_e (w0 rfl) rfl (eff_assign rfl rfl) ?_
                refine aops_nil ?_
                refine awp_seq ?_
                refine awp_genB 10 rfl (fun wb hwb => ?_)
                refine awp_region ?_
                refine aops_e (w0 rfl) rfl (eff_move rfl rfl) ?_
                refine aops_e (w0 rfl) rfl (eff_move rfl rfl) ?_
                refine aops_e (w0 rfl) rfl (eff_move rfl rfl) ?_
                refine aops_e (w0 rfl) rfl (eff_move rfl rfl) ?_
                refine aops_e (w0 rfl) rfl (eff_move rfl rfl) ?_
                refine aops_callP [_] _ (w0 rfl) rfl rfl rfl rfl (perm_get (k := 0) rfl) (ih (v21.2.1 - x.2.1) (by omega) _ (by omega) x.2.1 v21.2.1 _ (Nat.le_refl _) (by omega) (by omega) (hJ4.bd.le (by omega))) (fun v22 hv22 => ?_)
                refine aops_nil ?_
                refine awp_region ?_
                refine aops_e (w0 rfl) rfl (eff_move rfl rfl) ?_
                refine aops_e (w0 rfl) rfl (eff_arith rfl rfl rfl (arith_add (by first | omega | (simp only [List.length_map]; omega)))) ?_
                refine aops_e (w0 rfl) rfl (eff_assign rfl rfl) ?_
                refine aops_nil ?_
                refine ⟨(v22, v21.2.1 + 1, x.2.2.1, IntKind.i64.wrap (x.2.2.2.1 - 1), wb, v21.2.2), (hJ4.lower sLtT.ok (by omega) hmid hv21.2.2.2 hv22.1 hv22.2), (by (try simp only) <;> omega), ?_⟩
                exact weak_pick [0] ⟨rfl, rfl, rfl, rfl, rfl, rfl, rfl, trivial⟩ rfl (by decide) rfl rfl
              · intro hc
                refine awp_seq ?_
                refine awp_region ?_
                refine aops_e (w0 rfl) rfl (eff_move rfl rfl) ?_
                refine aops_e (w0 rfl) rfl (eff_move rfl rfl) ?_
                refine aops_e (w0 rfl) rfl (eff_icmp rfl rfl rfl rfl) ?_
                refine aops_e (w0 rfl) rfl (eff_assign rfl rfl) ?_
                refine aops_nil ?_
                refine awp_seq ?_
                refine awp_genB 10 rfl (fun wb hwb => ?_)
                refine awp_region ?_
                refine aops_e (w0 rfl) rfl (eff_move rfl rfl) ?_
                refine aops_e (w0 rfl) rfl (eff_move rfl rfl) ?_
                refine aops_e (w0 rfl) rfl (eff_arith rfl rfl rfl (arith_add (by first | omega | (simp only [List.length_map]; omega)))) ?_
                refine aops_e (w0 rfl) rfl (eff_move rfl rfl) ?_
                refine aops_e (w0 rfl) rfl (eff_move rfl rfl) ?_
                refine aops_e (w0 rfl) rfl (eff_move rfl rfl) ?_
                refine aops_callP [_] _ (w0 rfl) rfl rfl rfl rfl (perm_get (k := 0) rfl) (ih (x.2.2.1 - (v21.2.1 + 1)) (by omega) _ (by omega) (v21.2.1 + 1) x.2.2.1 _ (Nat.le_refl _) (by omega) (by omega) hv21.2.2.2.bd) (fun v23 hv23 => ?_)
                refine aops_nil ?_
                refine awp_region ?_
                refine aops_e (w0 rfl) rfl (eff_move rfl rfl) ?_
                refine aops_e (w0 rfl) rfl (eff_assign rfl rfl) ?_
                refine aops_nil ?_
                refine ⟨(v23, x.2.1, v21.2.1, IntKind.i64.wrap (x.2.2.2.1 - 1), wb, v21.2.2), (hJ4.upper sLtT.ok (by omega) hmid hv21.2.2.2 hv23.1 hv23.2), (by (try simp only) <;> omega), ?_⟩
                exact weak_pick [0] ⟨rfl, rfl, rfl, rfl, rfl, rfl, rfl, trivial⟩ rfl (by decide) rfl rfl
      · intro hc
        have hJ1 := hJ
        refine awp_skip ?_
        refine awp_seq ?_
        refine awp_region ?_
        refine aops_e (w0 rfl) rfl (eff_move rfl rfl) ?_
        refine aops_e (w0 rfl) rfl (eff_move rfl rfl) ?_
        refine aops_e (w0 rfl) rfl (eff_move rfl rfl) ?_
        refine aops_e (w0 rfl) rfl (eff_move rfl rfl) ?_
        refine aops_callP [_] _ (w0 rfl) rfl rfl rfl rfl (perm_get (k := 0) rfl) (c_pivotF q n _ (by have := hJ1.sw.len; omega) hN x.2.1 x.2.2.1 (by omega) (by omega)) (fun v24 hv24 => ?_)
        refine aops_e (w0 rfl) rfl (eff_move rfl rfl) ?_
        refine aops_e (w0 rfl) rfl (eff_extract rfl rfl rfl) ?_
        refine aops_e (w0 rfl) rfl (eff_extract rfl rfl rfl) ?_
        refine aops_e (w0 rfl) rfl (eff_assign rfl rfl) ?_
        refine aops_e (w0 rfl) rfl (eff_assign rfl rfl) ?_
        refine aops_nil ?_
        refine awp_seq ?_
        refine awp_seq ?_
        refine awp_genN 13 rfl (fun pv hpv => ?_)
        have hp : x.2.1 ≤ pv ∧ pv < x.2.2.1 := by rw [hpv]; exact hv24
        refine awp_region ?_
        refine aops_e (w0 rfl) rfl (eff_move rfl rfl) ?_
        refine aops_e (w0 rfl) rfl (eff_icmp rfl rfl rfl rfl) ?_
        refine aops_nil ?_
        refine awp_cond rfl ?_ ?_
        · intro hc
          refine awp_seq ?_
          refine awp_region ?_
          refine aops_e (w0 rfl) rfl (eff_move rfl rfl) ?_
          refine aops_e (w0 rfl) rfl (eff_move rfl rfl) ?_
          refine aops_e (w0 rfl) rfl (eff_move rfl rfl) ?_
          refine aops_e (w0 rfl) rfl (eff_move rfl rfl) ?_
          refine aops_callP [_] _ (w0 rfl) rfl rfl rfl rfl (perm_get (k := 0) rfl) (c_revF q n _ (by have := hJ1.sw.len; omega) hN x.2.1 x.2.2.1 (by omega) (by omega)) (fun v25 hv25 => ?_)
          have hJ2 := hJ1.move (by omega) hv25
          refine aops_nil ?_
          refine awp_seq ?_
          refine awp_region ?_
          refine aops_e (w0 rfl) rfl (eff_move rfl rfl) ?_
          refine aops_e (w0 rfl) rfl (eff_arith rfl rfl rfl (arith_sub (by first | omega | (simp only [List.length_map]; omega)))) ?_
          refine aops_e (w0 rfl) rfl (eff_move rfl rfl) ?_
          refine aops_e (w0 rfl) rfl (eff_move rfl rfl) ?_
          refine aops_e (w0 rfl) rfl (eff_arith rfl rfl rfl (arith_sub (by first | omega | (simp only [List.length_map]; omega)))) ?_
          refine aops_e (w0 rfl) rfl (eff_to (y := iA (x.2.2.1 - 1 - (pv - x.2.1) : Nat)) (eff_arith rfl rfl rfl (arith_sub (by first | omega | (simp only [List.length_map]; omega)))) (congrArg iA (by omega))) ?_
          refine aops_e (w0 rfl) rfl (eff_assign rfl rfl) ?_
          refine aops_nil ?_
          refine awp_region ?_
          refine aops_e (w0 rfl) rfl (eff_assign rfl rfl) ?_
          refine aops_nil ?_
          refine awp_seq ?_
          refine awp_seq ?_
          refine awp_genN 13 rfl (fun p2 hp2 => ?_)
          have hp2' : x.2.1 ≤ p2 ∧ p2 < x.2.2.1 := by omega
          refine awp_region ?_
          refine aops_e (w0 rfl) rfl (eff_move rfl rfl) ?_
          refine aops_e (w0 rfl) rfl (eff_move rfl rfl) ?_
          refine aops_g (wT rfl rfl rfl rfl) rfl (fun hg => (eff_move rfl rfl)) ?_
          refine aops_e (w0 rfl) rfl (eff_and rfl rfl rfl (fun h => h)) ?_
          refine aops_e (w0 rfl) rfl (eff_move rfl rfl) ?_
          refine aops_g (wT rfl rfl rfl rfl) rfl (fun hg => (eff_move rfl rfl)) ?_
          refine aops_g (wT rfl rfl rfl rfl) rfl (fun hg => (eff_icmp rfl (ev_g hg rfl) rfl rfl)) ?_
          refine aops_e (w0 rfl) rfl (eff_and rfl rfl rfl (fun h => h)) ?_
          refine aops_nil ?_
          refine awp_cond rfl ?_ ?_
          · intro hc
            refine awp_seq ?_
            refine awp_region ?_
            refine aops_e (w0 rfl) rfl (eff_move rfl rfl) ?_
            refine aops_e (w0 rfl) rfl (eff_move rfl rfl) ?_
            refine aops_e (w0 rfl) rfl (eff_move rfl rfl) ?_
            refine aops_e (w0 rfl) rfl (eff_move rfl rfl) ?_
            refine aops_callP [_] _ (w0 rfl) rfl rfl rfl rfl (perm_get (k := 0) rfl) (c_partialF q n _ (by have := hJ2.sw.len; omega) hN x.2.1 x.2.2.1 (by omega) (by omega) hJ2.bd) (fun v26 hv26 => ?_)
            have hJ3 := hJ2.move (by omega) hv26.1
            refine aops_nil ?_
            refine awp_cond rfl ?_ ?_
            · intro hc
              refine awp_ret ?_
              exact retq_keep rfl res_nil (.cons_cons _ .slnil) (gp v26.1 ⟨hJ3.sw, hJ2.fin _ hv26.1 ((hv26.2 hc).on sLtT.ok)⟩ rfl rfl)
            · intro hc
              have hl3 := hJ3.sw.len
              refine awp_skip ?_
              refine awp_seq ?_
              refine awp_seq ?_
              refine awp_drawM [0, 1, 3, 7, 7, 7, 39, 119, 247, 7, 7, 1543, 3591, 8191, 16383, 32767, 65535] 17 rfl (by kernel_rfl) ?_
              refine calm_e (w0 rfl) rfl (eff_move rfl rfl) ?_
              refine calm_e (w0 rfl) rfl (eff_icmp rfl rfl rfl rfl) ?_
              refine calm_e (w0 rfl) rfl (eff_move rfl rfl) ?_
              refine calm_g (wT rfl rfl rfl rfl) rfl (fun hg => (eff_move rfl rfl)) ?_
              refine calm_g (wT rfl rfl rfl rfl) rfl (fun hg => (eff_move rfl rfl)) ?_
              refine calm_g (wT rfl rfl rfl rfl) rfl (fun hg => (eff_move rfl rfl)) ?_
              refine calm_g (wT rfl rfl rfl rfl) rfl (fun hg => (eff_arith rfl (ev_g hg rfl) rfl (arith_sub (by first | omega | (simp only [List.length_map]; omega))))) ?_
              refine calm_g (wT rfl rfl rfl rfl) rfl (fun hg => (eff_indexAddr_ownN (x.2.1 - 1) rfl (ev_g hg rfl) (ev_g hg rfl) (by (try simp at hg) <;> first | omega | (simp only [List.length_map]; omega) | (simp only [List.length_map, List.length_drop]; omega)) (by (try simp at hg) <;> first | omega | (simp only [List.length_map]; omega) | (simp only [List.length_map, List.length_drop]; omega)) (by omega))) ?_
              refine calm_gloadC (f := Site.cells) 0 (wT rfl rfl rfl rfl) rfl rfl (fun hg => (ev_g hg rfl)) rfl (fun hg => by (try simp at hg) <;> (first | assumption | omega | (simp only [List.length_drop]; omega))) (fun _ => ld_aggC rfl) ?_
              refine calm_g (wT rfl rfl rfl rfl) rfl (fun hg => (eff_move rfl rfl)) ?_
              refine calm_g (wT rfl rfl rfl rfl) rfl (fun hg => (eff_move rfl rfl)) ?_
              refine calm_g (wT rfl rfl rfl rfl) rfl (fun hg => (eff_indexAddr_ownN p2 rfl (ev_g hg rfl) (ev_g hg rfl) (by (try simp at hg) <;> first | omega | (simp only [List.length_map]; omega) | (simp only [List.length_map, List.length_drop]; omega)) (by (try simp at hg) <;> first | omega | (simp only [List.length_map]; omega) | (simp only [List.length_map, List.length_drop]; omega)) (by omega))) ?_
              refine calm_gloadC (f := Site.cells) 0 (wT rfl rfl rfl rfl) rfl rfl (fun hg => (ev_g hg rfl)) rfl (fun hg => by (try simp at hg) <;> (first | assumption | omega | (simp only [List.length_drop]; omega))) (fun _ => ld_aggC rfl) ?_
              refine calm_g (wT rfl rfl rfl rfl) rfl (fun hg => (eff_call [] rfl (ev_g hg rfl) (evs_cons (ev_g hg rfl) (evs_cons (ev_g hg rfl) evs_nil)) (c_cmpSite _ _) List.nodup_nil)) ?_
              refine calm_g (wT rfl rfl rfl rfl) rfl (fun hg => (eff_icmp rfl (ev_g hg rfl) rfl rfl)) ?_
              refine calm_g (wT rfl rfl rfl rfl) rfl (fun hg => (eff_not rfl (ev_g hg rfl))) ?_
              refine calm_e (w0 rfl) rfl (eff_and rfl rfl rfl (fun h => h)) ?_
              refine .done ?_
              refine aops_nil ?_
              refine awp_cond rfl ?_ ?_
              · intro hc
                have ha0 : 0 < x.2.1 := by have := andL hc; simpa using this
                have hpe := notT (andR hc)
                refine awp_seq ?_
                refine awp_region ?_
                refine aops_e (w0 rfl) rfl (eff_move rfl rfl) ?_
                refine aops_e (w0 rfl) rfl (eff_move rfl rfl) ?_
                refine aops_e (w0 rfl) rfl (eff_move rfl rfl) ?_
                refine aops_e (w0 rfl) rfl (eff_move rfl rfl) ?_
                refine aops_e (w0 rfl) rfl (eff_move rfl rfl) ?_
                refine aops_callP [_] _ (w0 rfl) rfl rfl rfl rfl (perm_get (k := 0) rfl) (c_partEF q n _ (by omega) hN x.2.1 x.2.2.1 p2 hp2'.1 hp2'.2 (by omega)) (fun v27 hv27 => ?_)
                refine aops_e (w0 rfl) rfl (eff_assign rfl rfl) ?_
                refine aops_nil ?_
                refine awp_seq ?_
                refine awp_region ?_
                refine aops_e (w0 rfl) rfl (eff_move rfl rfl) ?_
                refine aops_e (w0 rfl) rfl (eff_assign rfl rfl) ?_
                refine aops_nil ?_
                refine awp_exit ?_
                refine ⟨(v27.1, v27.2, x.2.2.1, x.2.2.2.1, x.2.2.2.2.1, x.2.2.2.2.2), (by obtain ⟨j, e, he⟩ := hv27.2.2.2.2; exact (hJ3.move (by omega) hv27.1).equal sLtT.ok (by omega) ha0 (by rw [hv27.1.out (.inl (by omega)), hv27.2.2.2.1]; exact hpe) he e hv27.2.1 hv27.2.2.1), (by (try simp only) <;> (have := hv27.2.1; omega)), ?_⟩
                exact weak_pick [0] ⟨rfl, rfl, rfl, rfl, rfl, rfl, rfl, trivial⟩ rfl (by decide) rfl rfl
              · intro hc
                refine awp_skip ?_
                refine awp_seq ?_
                refine awp_region ?_
                refine aops_e (w0 rfl) rfl (eff_move rfl rfl) ?_
                refine aops_e (w0 rfl) rfl (eff_move rfl rfl) ?_
                refine aops_e (w0 rfl) rfl (eff_move rfl rfl) ?_
                refine aops_e (w0 rfl) rfl (eff_move rfl rfl) ?_
                refine aops_e (w0 rfl) rfl (eff_move rfl rfl) ?_
                refine aops_callP [_] _ (w0 rfl) rfl rfl rfl rfl (perm_get (k := 0) rfl) (c_partF q n _ (by omega) hN x.2.1 x.2.2.1 p2 hp2'.1 hp2'.2 (by omega)) (fun v28 hv28 => ?_)
                refine aops_e (w0 rfl) rfl (eff_move rfl rfl) ?_
                refine aops_e (w0 rfl) rfl (eff_extract rfl rfl rfl) ?_
                refine aops_e (w0 rfl) rfl (eff_extract rfl rfl rfl) ?_
                refine aops_e (w0 rfl) rfl (eff_assign rfl rfl) ?_
                refine aops_e (w0 rfl) rfl (eff_assign rfl rfl) ?_
                refine aops_nil ?_
                refine awp_seq ?_
                refine awp_region ?_
                refine aops_e (w0 rfl) rfl (eff_move rfl rfl) ?_
                refine aops_e (w0 rfl) rfl (eff_assign rfl rfl) ?_
                refine aops_nil ?_
                refine awp_seq ?_
                have hJ4 := hJ3.move (by omega) hv28.1
                have hl4 := hJ4.sw.len
                have hmid : x.2.1 ≤ v28.2.1 ∧ v28.2.1 < x.2.2.1 := ⟨hv28.2.1, hv28.2.2.1⟩
                refine awp_region ?_
                refine aops_e (w0 rfl) rfl (eff_move rfl rfl) ?_
                refine aops_e (w0 rfl) rfl (eff_move rfl rfl) ?_
                refine aops_e (w0 rfl) rfl (eff_arith rfl rfl rfl (arith_sub (by first | omega | (simp only [List.length_map]; omega)))) ?_
                refine aops_e (w0 rfl) rfl (eff_move rfl rfl) ?_
                refine aops_e (w0 rfl) rfl (eff_move rfl rfl) ?_
                refine aops_e (w0 rfl) rfl (eff_arith rfl rfl rfl (arith_sub (by first | omega | (simp only [List.length_map]; omega)))) ?_
                refine aops_e (w0 rfl) rfl (eff_assign rfl rfl) ?_
                refine aops_e (w0 rfl) rfl (eff_assign rfl rfl) ?_
                refine aops_nil ?_
                refine awp_seq ?_
                refine awp_region ?_
                refine aops_e (w0 rfl) rfl (eff_move rfl rfl) ?_
                refine aops_e (w0 rfl) rfl (eff_to (y := iA ((x.2.2.1 - x.2.1) / 8 : Nat)) (eff_quo rfl rfl rfl (by decide) (tdivN_ok (x.2.2.1 - x.2.1) 8 (by omega))) (congrArg iA (tdivN (x.2.2.1 - x.2.1) 8))) ?_
                refine aops_e (w0 rfl) rfl (eff_assign rfl rfl) ?_
                refine aops_nil ?_
                refine awp_seq ?_
                refine awp_region ?_
                refine aops_e (w0 rfl) rfl (eff_move rfl rfl) ?_
                refine aops_e (w0 rfl) rfl (eff_move rfl rfl) ?_
                refine aops_e (w0 rfl) rfl (eff_icmp rfl rfl rfl rfl) ?_
                refine aops_nil ?_
                refine awp_cond rfl ?_ ?_
                · intro hc
                  refine awp_seq ?_
                  refine awp_region ?_
                  refine aops_e (w0 rfl) rfl (eff_move rfl rfl) ?_
                  refine aops_e (w0 rfl) rfl (eff_move rfl rfl) ?_
                  refine aops_e (w0 rfl) rfl (eff_icmp rfl rfl rfl rfl) ?_
                  refine aops_e (w0 rfl) rfl (eff_assign rfl rfl) ?_
                  refine aops_nil ?_
                  refine awp_seq ?_
                  refine awp_genB 10 rfl (fun wb hwb => ?_)
                  refine awp_region ?_
                  refine aops_e (w0 rfl) rfl (eff_move rfl rfl) ?_
                  refine aops_e (w0 rfl) rfl (eff_move rfl rfl) ?_
                  refine aops_e (w0 rfl) rfl (eff_move rfl rfl) ?_
                  refine aops_e (w0 rfl) rfl (eff_move rfl rfl) ?_
                  refine aops_e (w0 rfl) rfl (eff_move rfl rfl) ?_
                  refine aops_callP [_] _ (w0 rfl) rfl rfl rfl rfl (perm_get (k := 0) rfl) (ih (v28.2.1 - x.2.1) (by omega) _ (by omega) x.2.1 v28.2.1 _ (Nat.le_refl _) (by omega) (by omega) (hJ4.bd.le (by omega))) (fun v29 hv29 => ?_)
                  refine aops_nil ?_
                  refine awp_region ?_
                  refine aops_e (w0 rfl) rfl (eff_move rfl rfl) ?_
                  refine aops_e (w0 rfl) rfl (eff_arith rfl rfl rfl (arith_add (by first | omega | (simp only [List.length_map]; omega)))) ?_
                  refine aops_e (w0 rfl) rfl (eff_assign rfl rfl) ?_
                  refine aops_nil ?_
                  refine ⟨(v29, v28.2.1 + 1, x.2.2.1, x.2.2.2.1, wb, v28.2.2), (hJ4.lower sLtT.ok (by omega) hmid hv28.2.2.2 hv29.1 hv29.2), (by (try simp only) <;> omega), ?_⟩
                  exact weak_pick [0] ⟨rfl, rfl, rfl, rfl, rfl, rfl, rfl, trivial⟩ rfl (by decide) rfl rfl
                · intro hc
                  refine awp_seq ?_
                  refine awp_region ?_
                  refine aops_e (w0 rfl) rfl (eff_move rfl rfl) ?_
                  refine aops_e (w0 rfl) rfl (eff_move rfl rfl) ?_
                  refine aops_e (w0 rfl) rfl (eff_icmp rfl rfl rfl rfl) ?_
                  refine aops_e (w0 rfl) rfl (eff_assign rfl rfl) ?_
                  refine aops_nil ?_
                  refine awp_seq ?_
                  refine awp_genB 10 rfl (fun wb hwb => ?_)
                  refine awp_region ?_
                  refine aops_e (w0 rfl) rfl (eff_move rfl rfl) ?_
                  refine aops_e (w0 rfl) rfl (eff_move rfl rfl) ?_
                  refine aops_e (w0 rfl) rfl (eff_arith rfl rfl rfl (arith_add (by first | omega | (simp only [List.length_map]; omega)))) ?_
                  refine aops_e (w0 rfl) rfl (eff_move rfl rfl) ?_
                  refine aops_e (w0 rfl) rfl (eff_move rfl rfl) ?_
                  refine aops_e (w0 rfl) rfl (eff_move rfl rfl) ?_
                  refine aops_callP [_] _ (w0 rfl) rfl rfl rfl rfl (perm_get (k := 0) rfl) (ih (x.2.2.1 - (v28.2.1 + 1)) (by omega) _ (by omega) (v28.2.1 + 1) x.2.2.1 _ (Nat.le_refl _) (by omega) (by omega) hv28.2.2.2.bd) (fun v30 hv30 => ?_)
                  refine aops_nil ?_
                  refine awp_region ?_
                  refine aops_e (w0 rfl) rfl (eff_move rfl rfl) ?_
                  refine aops_e (w0 rfl) rfl (eff_assign rfl rfl) ?_
                  refine aops_nil ?_
                  refine ⟨(v30, x.2.1, v28.2.1, x.2.2.2.1, wb, v28.2.2), (hJ4.upper sLtT.ok (by omega) hmid hv28.2.2.2 hv30.1 hv30.2), (by (try simp only) <;> omega), ?_⟩
                  exact weak_pick [0] ⟨rfl, rfl, rfl, rfl, rfl, rfl, rfl, trivial⟩ rfl (by decide) rfl rfl
          · intro hc
            have hJ3 := hJ2
            have hl3 := hJ3.sw.len
            refine awp_skip ?_
            refine awp_seq ?_
            refine awp_seq ?_
            refine awp_drawM [0, 1, 3, 7, 7, 7, 39, 119, 247, 7, 7, 1543, 3591, 8191, 16383, 32767, 65535] 17 rfl (by kernel_rfl) ?_
            refine calm_e (w0 rfl) rfl (eff_move rfl rfl) ?_
            refine calm_e (w0 rfl) rfl (eff_icmp rfl rfl rfl rfl) ?_
            refine calm_e (w0 rfl) rfl (eff_move rfl rfl) ?_
            refine calm_g (wT rfl rfl rfl rfl) rfl (fun hg => (eff_move rfl rfl)) ?_
            refine calm_g (wT rfl rfl rfl rfl) rfl (fun hg => (eff_move rfl rfl)) ?_
            refine calm_g (wT rfl rfl rfl rfl) rfl (fun hg => (eff_move rfl rfl)) ?_
            refine calm_g (wT rfl rfl rfl rfl) rfl (fun hg => (eff_arith rfl (ev_g hg rfl) rfl (arith_sub (by first | omega | (simp only [List.length_map]; omega))))) ?_
            refine calm_g (wT rfl rfl rfl rfl) rfl (fun hg => (eff_indexAddr_ownN (x.2.1 - 1) rfl (ev_g hg rfl) (ev_g hg rfl) (by (try simp at hg) <;> first | omega | (simp only [List.length_map]; omega) | (simp only [List.length_map, List.length_drop]; omega)) (by (try simp at hg) <;> first | omega | (simp only [List.length_map]; omega) | (simp only [List.length_map, List.length_drop]; omega)) (by omega))) ?_
            refine calm_gloadC (f := Site.cells) 0 (wT rfl rfl rfl rfl) rfl rfl (fun hg => (ev_g hg rfl)) rfl (fun hg => by (try simp at hg) <;> (first | assumption | omega | (simp only [List.length_drop]; omega))) (fun _ => ld_aggC rfl) ?_
            refine calm_g (wT rfl rfl rfl rfl) rfl (fun hg => (eff_move rfl rfl)) ?_
            refine calm_g (wT rfl rfl rfl rfl) rfl (fun hg => (eff_move rfl rfl)) ?_
            refine calm_g (wT rfl rfl rfl rfl) rfl (fun hg => (eff_indexAddr_ownN p2 rfl (ev_g hg rfl) (ev_g hg rfl) (by (try simp at hg) <;> first | omega | (simp only [List.length_map]; omega) | (simp only [List.length_map, List.length_drop]; omega)) (by (try simp at hg) <;> first | omega | (simp only [List.length_map]; omega) | (simp only [List.length_map, List.length_drop]; omega)) (by omega))) ?_
            refine calm_gloadC (f := Site.cells) 0 (wT rfl rfl rfl rfl) rfl rfl (fun hg => (ev_g hg rfl)) rfl (fun hg => by (try simp at hg) <;> (first | assumption | omega | (simp only [List.length_drop]; omega))) (fun _ => ld_aggC rfl) ?_
            refine calm_g (wT rfl rfl rfl rfl) rfl (fun hg => (eff_call [] rfl (ev_g hg rfl) (evs_cons (ev_g hg rfl) (evs_cons (ev_g hg rfl) evs_nil)) (c_cmpSite _ _) List.nodup_nil)) ?_
            refine calm_g (wT rfl rfl rfl rfl) rfl (fun hg => (eff_icmp rfl (ev_g hg rfl) rfl rfl)) ?_
            refine calm_g (wT rfl rfl rfl rfl) rfl (fun hg => (eff_not rfl (ev_g hg rfl))) ?_
            refine calm_e (w0 rfl) rfl (eff_and rfl rfl rfl (fun h => h)) ?_
            refine .done ?_
            refine aops_nil ?_
            refine awp_cond rfl ?_ ?_
            · intro hc
              have ha0 : 0 < x.2.1 := by have := andL hc; simpa using this
              have hpe := notT (andR hc)
              refine awp_seq ?_
              refine awp_region ?_
              refine aops_e (w0 rfl) rfl (eff_move rfl rfl) ?_
              refine aops_e (w0 rfl) rfl (eff_move rfl rfl) ?_
              refine aops_e (w0 rfl) rfl (eff_move rfl rfl) ?_
              refine aops_e (w0 rfl) rfl (eff_move rfl rfl) ?_
              refine aops_e (w0 rfl) rfl (eff_move rfl rfl) ?_
              refine aops_callP [_] _ (w0 rfl) rfl rfl rfl rfl (perm_get (k := 0) rfl) (c_partEF q n _ (by omega) hN x.2.1 x.2.2.1 p2 hp2'.1 hp2'.2 (by omega)) (fun v31 hv31 => ?_)
              refine aops_e (w0 rfl) rfl (eff_assign rfl rfl) ?_
              refine aops_nil ?_
              refine awp_seq ?_
              refine awp_region ?_
              refine aops_e (w0 rfl) rfl (eff_move rfl rfl) ?_
              refine aops_e (w0 rfl) rfl (eff_assign rfl rfl) ?_
              refine aops_nil ?_
              refine awp_exit ?_
              refine ⟨(v31.1, v31.2, x.2.2.1, x.2.2.2.1, x.2.2.2.2.1, x.2.2.2.2.2), (by obtain ⟨j, e, he⟩ := hv31.2.2.2.2; exact (hJ3.move (by omega) hv31.1).equal sLtT.ok (by omega) ha0 (by rw [hv31.1.out (.inl (by omega)), hv31.2.2.2.1]; exact hpe) he e hv31.2.1 hv31.2.2.1), (by (try simp only) <;> (have := hv31.2.1; omega)), ?_⟩
              exact weak_pick [0] ⟨rfl, rfl, rfl, rfl, rfl, rfl, rfl, trivial⟩ rfl (by decide) rfl rfl
            · intro hc
              refine awp_skip ?_
              refine awp_seq ?_
              refine awp_region ?_
              refine aops_e (w0 rfl) rfl (eff_move rfl rfl) ?_
              refine aops_e (w0 rfl) rfl (eff_move rfl rfl) ?_
              refine aops_e (w0 rfl) rfl (eff_move rfl rfl) ?_
              refine aops_e (w0 rfl) rfl (eff_move rfl rfl) ?_
              refine aops_e (w0 rfl) rfl (eff_move rfl rfl) ?_
              refine aops_callP [_] _ (w0 rfl) rfl rfl rfl rfl (perm_get (k := 0) rfl) (c_partF q n _ (by omega) hN x.2.1 x.2.2.1 p2 hp2'.1 hp2'.2 (by omega)) (fun v32 hv32 => ?_)
              refine aops_e (w0 rfl) rfl (eff_move rfl rfl) ?_
              refine aops_e (w0 rfl) rfl (eff_extract rfl rfl rfl) ?_
              refine aops_e (w0 rfl) rfl (eff_extract rfl rfl rfl) ?_
              refine aops_e (w0 rfl) rfl (eff_assign rfl rfl) ?_
              refine aops_e (w0 rfl) rfl (eff_assign rfl rfl) ?_
              refine aops_nil ?_
              refine awp_seq ?_
              refine awp_region ?_
              refine aops_e (w0 rfl) rfl (eff_move rfl rfl) ?_
              refine aops_e (w0 rfl) rfl (eff_assign rfl rfl) ?_
              refine aops_nil ?_
              refine awp_seq ?_
              have hJ4 := hJ3.move (by omega) hv32.1
              have hl4 := hJ4.sw.len
              have hmid : x.2.1 ≤ v32.2.1 ∧ v32.2.1 < x.2.2.1 := ⟨hv32.2.1, hv32.2.2.1⟩
              refine awp_region ?_
              refine aops_e (w0 rfl) rfl (eff_move rfl rfl) ?_
              refine aops_e (w0 rfl) rfl (eff_move rfl rfl) ?_
              refine aops_e (w0 rfl) rfl (eff_arith rfl rfl rfl (arith_sub (by first | omega | (simp only [List.length_map]; omega)))) ?_
              refine aops_e (w0 rfl) rfl (eff_move rfl rfl) ?_
              refine aops_e (w0 rfl) rfl (eff_move rfl rfl) ?_
              refine aops_e (w0 rfl) rfl (eff_arith rfl rfl rfl (arith_sub (by first | omega | (simp only [List.length_map]; omega)))) ?_
              refine aops_e (w0 rfl) rfl (eff_assign rfl rfl) ?_
              refine aops_e (w0 rfl) rfl (eff_assign rfl rfl) ?_
              refine aops_nil ?_
              refine awp_seq ?_
              refine awp_region ?_
              refine aops_e (w0 rfl) rfl (eff_move rfl rfl) ?_
              refine aops_e (w0 rfl) rfl (eff_to (y := iA ((x.2.2.1 - x.2.1) / 8 : Nat)) (eff_quo rfl rfl rfl (by decide) (tdivN_ok (x.2.2.1 - x.2.1) 8 (by omega))) (congrArg iA (tdivN (x.2.2.1 - x.2.1) 8))) ?_
              refine aops_e (w0 rfl) rfl (eff_assign rfl rfl) ?_
              refine aops_nil ?_
              refine awp_seq ?_
              refine awp_region ?_
              refine aops_e (w0 rfl) rfl (eff_move rfl rfl) ?_
              refine aops_e (w0 rfl) rfl (eff_move rfl rfl) ?_
              refine aops_e (w0 rfl) rfl (eff_icmp rfl rfl rfl rfl) ?_
              refine aops_nil ?_
              refine awp_cond rfl ?_ ?_
              · intro hc
                refine awp_seq ?_
                refine awp_region ?_
                refine aops_e (w0 rfl) rfl (eff_move rfl rfl) ?_
                refine aops_e (w0 rfl) rfl (eff_move rfl rfl) ?_
                refine aops_e (w0 rfl) rfl (eff_icmp rfl rfl rfl rfl) ?_
                refine aops_e (w0 rfl) rfl (eff_assign rfl rfl) ?_
                refine aops_nil ?_
                refine awp_seq ?_
                refine awp_genB 10 rfl (fun wb hwb => ?_)
                refine awp_region ?_
                refine aops_e (w0 rfl) rfl (eff_move rfl rfl) ?_
                refine aops_e (w0 rfl) rfl (eff_move rfl rfl) ?_
                refine aops_e (w0 rfl) rfl (eff_move rfl rfl) ?_
                refine aops_e (w0 rfl) rfl (eff_move rfl rfl) ?_
                refine aops_e (w0 rfl) rfl (eff_move rfl rfl) ?_
                refine aops_callP [_] _ (w0 rfl) rfl rfl rfl rfl (perm_get (k := 0) rfl) (ih (v32.2.1 - x.2.1) (by omega) _ (by omega) x.2.1 v32.2.1 _ (Nat.le_refl _) (by omega) (by omega) (hJ4.bd.le (by omega))) (fun v33 hv33 => ?_)
                refine aops_nil ?_
                refine awp_region ?_
                refine aops_e (w0 rfl) rfl (eff_move rfl rfl) ?_
                refine aops_e (w0 rfl) rfl (eff_arith rfl rfl rfl (arith_add (by first | omega | (simp only [List.length_map]; omega)))) ?_
                refine aops_e (w0 rfl) rfl (eff_assign rfl rfl) ?_
                refine aops_nil ?_
                refine ⟨(v33, v32.2.1 + 1, x.2.2.1, x.2.2.2.1, wb, v32.2.2), (hJ4.lower sLtT.ok (by omega) hmid hv32.2.2.2 hv33.1 hv33.2), (by (try simp only) <;> omega), ?_⟩
                exact weak_pick [0] ⟨rfl, rfl, rfl, rfl, rfl, rfl, rfl, trivial⟩ rfl (by decide) rfl rfl
              · intro hc
                refine awp_seq ?_
                refine awp_region ?_
                refine aops_e (w0 rfl) rfl (eff_move rfl rfl) ?_
                refine aops_e (w0 rfl) rfl (eff_move rfl rfl) ?_
                refine aops_e (w0 rfl) rfl (eff_icmp rfl rfl rfl rfl) ?_
                refine aops_e (w0 rfl) rfl (eff_assign rfl rfl) ?_
                refine aops_nil ?_
                refine awp_seq ?_
                refine awp_genB 10 rfl (fun wb hwb => ?_)
                refine awp_region ?_
                refine aops_e (w0 rfl) rfl (eff_move rfl rfl) ?_
                refine aops_e (w0 rfl) rfl (eff_move rfl rfl) ?_
                refine aops_e (w0 rfl) rfl (eff_arith rfl rfl rfl (arith_add (by first | omega | (simp only [List.length_map]; omega)))) ?_
                refine aops_e (w0 rfl) rfl (eff_move rfl rfl) ?_
                refine aops_e (w0 rfl) rfl (eff_move rfl rfl) ?_
                refine aops_e (w0 rfl) rfl (eff_move rfl rfl) ?_
                refine aops_callP [_] _ (w0 rfl) rfl rfl rfl rfl (perm_get (k := 0) rfl) (ih (x.2.2.1 - (v32.2.1 + 1)) (by omega) _ (by omega) (v32.2.1 + 1) x.2.2.1 _ (Nat.le_refl _) (by omega) (by omega) hv32.2.2.2.bd) (fun v34 hv34 => ?_)
                refine aops_nil ?_
                refine awp_region ?_
                refine aops_e (w0 rfl) rfl (eff_move rfl rfl) ?_
                refine aops_e (w0 rfl) rfl (eff_assign rfl rfl) ?_
                refine aops_nil ?_
                refine ⟨(v34, x.2.1, v32.2.1, x.2.2.2.1, wb, v32.2.2), (hJ4.upper sLtT.ok (by omega) hmid hv32.2.2.2 hv34.1 hv34.2), (by (try simp only) <;> omega), ?_⟩
                exact weak_pick [0] ⟨rfl, rfl, rfl, rfl, rfl, rfl, rfl, trivial⟩ rfl (by decide) rfl rfl
        · intro hc
          have hJ2 := hJ1
          refine awp_skip ?_
          refine awp_seq ?_
          refine awp_seq ?_
          refine awp_genN 13 rfl (fun p2 hp2 => ?_)
          have hp2' : x.2.1 ≤ p2 ∧ p2 < x.2.2.1 := by omega
          refine awp_region ?_
          refine aops_e (w0 rfl) rfl (eff_move rfl rfl) ?_
          refine aops_e (w0 rfl) rfl (eff_move rfl rfl) ?_
          refine aops_g (wT rfl rfl rfl rfl) rfl (fun hg => (eff_move rfl rfl)) ?_
          refine aops_e (w0 rfl) rfl (eff_and rfl rfl rfl (fun h => h)) ?_
          refine aops_e (w0 rfl) rfl (eff_move rfl rfl) ?_
          refine aops_g (wT rfl rfl rfl rfl) rfl (fun hg => (eff_move rfl rfl)) ?_
          refine aops_g (wT rfl rfl rfl rfl) rfl (fun hg => (eff_icmp rfl (ev_g hg rfl) rfl rfl)) ?_
          refine aops_e (w0 rfl) rfl (eff_and rfl rfl rfl (fun h => h)) ?_
          refine aops_nil ?_
          refine awp_cond rfl ?_ ?_
          · intro hc
            refine awp_seq ?_
            refine awp_region ?_
            refine aops_e (w0 rfl) rfl (eff_move rfl rfl) ?_
            refine aops_e (w0 rfl) rfl (eff_move rfl rfl) ?_
            refine aops_e (w0 rfl) rfl (eff_move rfl rfl) ?_
            refine aops_e (w0 rfl) rfl (eff_move rfl rfl) ?_
            refine aops_callP [_] _ (w0 rfl) rfl rfl rfl rfl (perm_get (k := 0) rfl) (c_partialF q n _ (by have := hJ2.sw.len; omega) hN x.2.1 x.2.2.1 (by omega) (by omega) hJ2.bd) (fun v35 hv35 => ?_)
            have hJ3 := hJ2.move (by omega) hv35.1
            refine aops_nil ?_
            refine awp_cond rfl ?_ ?_
            · intro hc
              refine awp_ret ?_
              exact retq_keep rfl res_nil (.cons_cons _ .slnil) (gp v35.1 ⟨hJ3.sw, hJ2.fin _ hv35.1 ((hv35.2 hc).on sLtT.ok)⟩ rfl rfl)
            · intro hc
              have hl3 := hJ3.sw.len
              refine awp_skip ?_
              refine awp_seq ?_
              refine awp_seq ?_
              refine awp_drawM [0, 1, 3, 7, 7, 7, 39, 119, 247, 7, 7, 1543, 3591, 8191, 16383, 32767, 65535] 17 rfl (by kernel_rfl) ?_
              refine calm_e (w0 rfl) rfl (eff_move rfl rfl) ?_
              refine calm_e (w0 rfl) rfl (eff_icmp rfl rfl rfl rfl) ?_
              refine calm_e (w0 rfl) rfl (eff_move rfl rfl) ?_
              refine calm_g (wT rfl rfl rfl rfl) rfl (fun hg => (eff_move rfl rfl)) ?_
              refine calm_g (wT rfl rfl rfl rfl) rfl (fun hg => (eff_move rfl rfl)) ?_
              refine calm_g (wT rfl rfl rfl rfl) rfl (fun hg => (eff_move rfl rfl)) ?_
              refine calm_g (wT rfl rfl rfl rfl) rfl (fun hg => (eff_arith rfl (ev_g hg rfl) rfl (arith_sub (by first | omega | (simp only [List.length_map]; omega))))) ?_
              refine calm_g (wT rfl rfl rfl rfl) rfl (fun hg => (eff_indexAddr_ownN (x.2.1 - 1) rfl (ev_g hg rfl) (ev_g hg rfl) (by (try simp at hg) <;> first | omega | (simp only [List.length_map]; omega) | (simp only [List.length_map, List.length_drop]; omega)) (by (try simp at hg) <;> first | omega | (simp only [List.length_map]; omega) | (simp only [List.length_map, List.length_drop]; omega)) (by omega))) ?_
              refine calm_gloadC (f := Site.cells) 0 (wT rfl rfl rfl rfl) rfl rfl (fun hg => (ev_g hg rfl)) rfl (fun hg => by (try simp at hg) <;> (first | assumption | omega | (simp only [List.length_drop]; omega))) (fun _ => ld_aggC rfl) ?_
              refine calm_g (wT rfl rfl rfl rfl) rfl (fun hg => (eff_move rfl rfl)) ?_
              refine calm_g (wT rfl rfl rfl rfl) rfl (fun hg => (eff_move rfl rfl)) ?_
              refine calm_g (wT rfl rfl rfl rfl) rfl (fun hg => (eff_indexAddr_ownN p2 rfl (ev_g hg rfl) (ev_g hg rfl) (by (try simp at hg) <;> first | omega | (simp only [List.length_map]; omega) | (simp only [List.length_map, List.length_drop]; omega)) (by (try simp at hg) <;> first | omega | (simp only [List.length_map]; omega) | (simp only [List.length_map, List.length_drop]; omega)) (by omega))) ?_
              refine calm_gloadC (f := Site.cells) 0 (wT rfl rfl rfl rfl) rfl rfl (fun hg => (ev_g hg rfl)) rfl (fun hg => by (try simp at hg) <;> (first | assumption | omega | (simp only [List.length_drop]; omega))) (fun _ => ld_aggC rfl) ?_
              refine calm_g (wT rfl rfl rfl rfl) rfl (fun hg => (eff_call [] rfl (ev_g hg rfl) (evs_cons (ev_g hg rfl) (evs_cons (ev_g hg rfl) evs_nil)) (c_cmpSite _ _) List.nodup_nil)) ?_
              refine calm_g (wT rfl rfl rfl rfl) rfl (fun hg => (eff_icmp rfl (ev_g hg rfl) rfl rfl)) ?_
              refine calm_g (wT rfl rfl rfl rfl) rfl (fun hg => (eff_not rfl (ev_g hg rfl))) ?_
              refine calm_e (w0 rfl) rfl (eff_and rfl rfl rfl (fun h => h)) ?_
              refine .done ?_
              refine aops_nil ?_
              refine awp_cond rfl ?_ ?_
              · intro hc
                have ha0 : 0 < x.2.1 := by have := andL hc; simpa using this
                have hpe := notT (andR hc)
                refine awp_seq ?_
                refine awp_region ?_
                refine aops_e (w0 rfl) rfl (eff_move rfl rfl) ?_
                refine aops_e (w0 rfl) rfl (eff_move rfl rfl) ?_
                refine aops_e (w0 rfl) rfl (eff_move rfl rfl) ?_
                refine aops_e (w0 rfl) rfl (eff_move rfl rfl) ?_
                refine aops_e (w0 rfl) rfl (eff_move rfl rfl) ?_
                refine aops_callP [_] _ (w0 rfl) rfl rfl rfl rfl (perm_get (k := 0) rfl) (c_partEF q n _ (by omega) hN x.2.1 x.2.2.1 p2 hp2'.1 hp2'.2 (by omega)) (fun v36 hv36 => ?_)
                refine aops_e (w0 rfl) rfl (eff_assign rfl rfl) ?_
                refine aops_nil ?_
                refine awp_seq ?_
                refine awp_region ?_
                refine aops_e (w0 rfl) rfl (eff_move rfl rfl) ?_
                refine aops_e (w0 rfl) rfl (eff_assign rfl rfl) ?_
                refine aops_nil ?_
                refine awp_exit ?_
                refine ⟨(v36.1, v36.2, x.2.2.1, x.2.2.2.1, x.2.2.2.2.1, x.2.2.2.2.2), (by obtain ⟨j, e, he⟩ := hv36.2.2.2.2; exact (hJ3.move (by omega) hv36.1).equal sLtT.ok (by omega) ha0 (by rw [hv36.1.out (.inl (by omega)), hv36.2.2.2.1]; exact hpe) he e hv36.2.1 hv36.2.2.1), (by (try simp only) <;> (have := hv36.2.1; omega)), ?_⟩
                exact weak_pick [0] ⟨rfl, rfl, rfl, rfl, rfl, rfl, rfl, trivial⟩ rfl (by decide) rfl rfl
              · intro hc
                refine awp_skip ?_
                refine awp_seq ?_
                refine awp_region ?_
                refine aops_e (w0 rfl) rfl (eff_move rfl rfl) ?_
                refine aops_e (w0 rfl) rfl (eff_move rfl rfl) ?_
                refine aops_e (w0 rfl) rfl (eff_move rfl rfl) ?_
                refine aops_e (w0 rfl) rfl (eff_move rfl rfl) ?_
                refine aops_e (w0 rfl) rfl (eff_move rfl rfl) ?_
                refine aops_callP [_] _ (w0 rfl) rfl rfl rfl rfl (perm_get (k := 0) rfl) (c_partF q n _ (by omega) hN x.2.1 x.2.2.1 p2 hp2'.1 hp2'.2 (by omega)) (fun v37 hv37 => ?_)
                refine aops_e (w0 rfl) rfl (eff_move rfl rfl) ?_
                refine aops_e (w0 rfl) rfl (eff_extract rfl rfl rfl) ?_
                refine aops_e (w0 rfl) rfl (eff_extract rfl rfl rfl) ?_
                refine aops_e (w0 rfl) rfl (eff_assign rfl rfl) ?_
                refine aops_e (w0 rfl) rfl (eff_assign rfl rfl) ?_
                refine aops_nil ?_
                refine awp_seq ?_
                refine awp_region ?_
                refine aops_e (w0 rfl) rfl (eff_move rfl rfl) ?_
                refine aops_e (w0 rfl) rfl (eff_assign rfl rfl) ?_
                refine aops_nil ?_
                refine awp_seq ?_
                have hJ4 := hJ3.move (by omega) hv37.1
                have hl4 := hJ4.sw.len
                have hmid : x.2.1 ≤ v37.2.1 ∧ v37.2.1 < x.2.2.1 := ⟨hv37.2.1, hv37.2.2.1⟩
                refine awp_region ?_
                refine aops_e (w0 rfl) rfl (eff_move rfl rfl) ?_
                refine aops_e (w0 rfl) rfl (eff_move rfl rfl) ?_
                refine aops_e (w0 rfl) rfl (eff_arith rfl rfl rfl (arith_sub (by first | omega | (simp only [List.length_map]; omega)))) ?_
                refine aops_e (w0 rfl) rfl (eff_move rfl rfl) ?_
                refine aops_e (w0 rfl) rfl (eff_move rfl rfl) ?_
                refine aops_e (w0 rfl) rfl (eff_arith rfl rfl rfl (arith_sub (by first | omega | (simp only [List.length_map]; omega)))) ?_
                refine aops_e (w0 rfl) rfl (eff_assign rfl rfl) ?_
                refine aops_e (w0 rfl) rfl (eff_assign rfl rfl) ?_
                refine aops_nil ?_
                refine awp_seq ?_
                refine awp_region ?_
                refine aops_e (w0 rfl) rfl (eff_move rfl rfl) ?_
                refine aops_e (w0 rfl) rfl (eff_to (y := iA ((x.2.2.1 - x.2.1) / 8 : Nat)) (eff_quo rfl rfl rfl (by decide) (tdivN_ok (x.2.2.1 - x.2.1) 8 (by omega))) (congrArg iA (tdivN (x.2.2.1 - x.2.1) 8))) ?_
                refine aops_e (w0 rfl) rfl (eff_assign rfl rfl) ?_
                refine aops_nil ?_
                refine awp_seq ?_
                refine awp_region ?_
                refine aops_e (w0 rfl) rfl (eff_move rfl rfl) ?_
                refine aops_e (w0 rfl) rfl (eff_move rfl rfl) ?_
                refine aops_e (w0 rfl) rfl (eff_icmp rfl rfl rfl rfl) ?_
                refine aops_nil ?_
                refine awp_cond rfl ?_ ?_
                · intro hc
                  refine awp_seq ?_
                  refine awp_region ?_
                  refine aops_e (w0 rfl) rfl (eff_move rfl rfl) ?_
                  refine aops_e (w0 rfl) rfl (eff_move rfl rfl) ?_
                  refine aops_e (w0 rfl) rfl (eff_icmp rfl rfl rfl rfl) ?_
                  refine aops_e (w0 rfl) rfl (eff_assign rfl rfl) ?_
                  refine aops_nil ?_
                  refine awp_seq ?_
                  refine awp_genB 10 rfl (fun wb hwb => ?_)
                  refine awp_region ?_
                  refine aops_e (w0 rfl) rfl (eff_move rfl rfl) ?_
                  refine aops_e (w0 rfl) rfl (eff_move rfl rfl) ?_
                  refine aops_e (w0 rfl) rfl (eff_move rfl rfl) ?_
                  refine aops_e (w0 rfl) rfl (eff_move rfl rfl) ?_
                  refine aops_e (w0 rfl) rfl (eff_move rfl rfl) ?_
                  refine aops_callP [_] _ (w0 rfl) rfl rfl rfl rfl (perm_get (k := 0) rfl) (ih (v37.2.1 - x.2.1) (by omega) _ (by omega) x.2.1 v37.2.1 _ (Nat.le_refl _) (by omega) (by omega) (hJ4.bd.le (by omega))) (fun v38 hv38 => ?_)
                  refine aops_nil ?_
                  refine awp_region ?_
                  refine aops_e (w0 rfl) rfl (eff_move rfl rfl) ?_
                  refine aops_e (w0 rfl) rfl (eff_arith rfl rfl rfl (arith_add (by first | omega | (simp only [List.length_map]; omega)))) ?_
                  refine aops_e (w0 rfl) rfl (eff_assign rfl rfl) ?_
                  refine aops_nil ?_
                  refine ⟨(v38, v37.2.1 + 1, x.2.2.1, x.2.2.2.1, wb, v37.2.2), (hJ4.lower sLtT.ok (by omega) hmid hv37.2.2.2 hv38.1 hv38.2), (by (try simp only) <;> omega), ?_⟩
                  exact weak_pick [0] ⟨rfl, rfl, rfl, rfl, rfl, rfl, rfl, trivial⟩ rfl (by decide) rfl rfl
                · intro hc
                  refine awp_seq ?_
                  refine awp_region ?_
                  refine aops_e (w0 rfl) rfl (eff_move rfl rfl) ?_
                  refine aops_e (w0 rfl) rfl (eff_move rfl rfl) ?_
                  refine aops_e (w0 rfl) rfl (eff_icmp rfl rfl rfl rfl) ?_
                  refine aops_e (w0 rfl) rfl (eff_assign rfl rfl) ?_
                  refine aops_nil ?_
                  refine awp_seq ?_
                  refine awp_genB 10 rfl (fun wb hwb => ?_)
                  refine awp_region ?_
                  refine aops_e (w0 rfl) rfl (eff_move rfl rfl) ?_
                  refine aops_e (w0 rfl) rfl (eff_move rfl rfl) ?_
                  refine aops_e (w0 rfl) rfl (eff_arith rfl rfl rfl (arith_add (by first | omega | (simp only [List.length_map]; omega)))) ?_
                  refine aops_e (w0 rfl) rfl (eff_move rfl rfl) ?_
                  refine aops_e (w0 rfl) rfl (eff_move rfl rfl) ?_
                  refine aops_e (w0 rfl) rfl (eff_move rfl rfl) ?_
                  refine aops_callP [_] _ (w0 rfl) rfl rfl rfl rfl (perm_get (k := 0) rfl) (ih (x.2.2.1 - (v37.2.1 + 1)) (by omega) _ (by omega) (v37.2.1 + 1) x.2.2.1 _ (Nat.le_refl _) (by omega) (by omega) hv37.2.2.2.bd) (fun v39 hv39 => ?_)
                  refine aops_nil ?_
                  refine awp_region ?_
                  refine aops_e (w0 rfl) rfl (eff_move rfl rfl) ?_
                  refine aops_e (w0 rfl) rfl (eff_assign rfl rfl) ?_
                  refine aops_nil ?_
                  refine ⟨(v39, x.2.1, v37.2.1, x.2.2.2.1, wb, v37.2.2), (hJ4.upper sLtT.ok (by omega) hmid hv37.2.2.2 hv39.1 hv39.2), (by (try simp only) <;> omega), ?_⟩
                  exact weak_pick [0] ⟨rfl, rfl, rfl, rfl, rfl, rfl, rfl, trivial⟩ rfl (by decide) rfl rfl
          · intro hc
            have hJ3 := hJ2
            have hl3 := hJ3.sw.len
            refine awp_skip ?_
            refine awp_seq ?_
            refine awp_seq ?_
            refine awp_drawM [0, 1, 3, 7, 7, 7, 39, 119, 247, 7, 7, 1543, 3591, 8191, 16383, 32767, 65535] 17 rfl (by kernel_rfl) ?_
            refine calm_e (w0 rfl) rfl (eff_move rfl rfl) ?_
            refine calm_e (w0 rfl) rfl (eff_icmp rfl rfl rfl rfl) ?_
            refine calm_e (w0 rfl) rfl (eff_move rfl rfl) ?_
            refine calm_g (wT rfl rfl rfl rfl) rfl (fun hg => (eff_move rfl rfl)) ?_
            refine calm_g (wT rfl rfl rfl rfl) rfl (fun hg => (eff_move rfl rfl)) ?_
            refine calm_g (wT rfl rfl rfl rfl) rfl (fun hg => (eff_move rfl rfl)) ?_
            refine calm_g (wT rfl rfl rfl rfl) rfl (fun hg => (eff_arith rfl (ev_g hg rfl) rfl (arith_sub (by first | omega | (simp only [List.length_map]; omega))))) ?_
            refine calm_g (wT rfl rfl rfl rfl) rfl (fun hg => (eff_indexAddr_ownN (x.2.1 - 1) rfl (ev_g hg rfl) (ev_g hg rfl) (by (try simp at hg) <;> first | omega | (simp only [List.length_map]; omega) | (simp only [List.length_map, List.length_drop]; omega)) (by (try simp at hg) <;> first | omega | (simp only [List.length_map]; omega) | (simp only [List.length_map, List.length_drop]; omega)) (by omega))) ?_
            refine calm_gloadC (f := Site.cells) 0 (wT rfl rfl rfl rfl) rfl rfl (fun hg => (ev_g hg rfl)) rfl (fun hg => by (try simp at hg) <;> (first | assumption | omega | (simp only [List.length_drop]; omega))) (fun _ => ld_aggC rfl) ?_
            refine calm_g (wT rfl rfl rfl rfl) rfl (fun hg => (eff_move rfl rfl)) ?_
            refine calm_g (wT rfl rfl rfl rfl) rfl (fun hg => (eff_move rfl rfl)) ?_
            refine calm_g (wT rfl rfl rfl rfl) rfl (fun hg => (eff_indexAddr_ownN p2 rfl (ev_g hg rfl) (ev_g hg rfl) (by (try simp at hg) <;> first | omega | (simp only [List.length_map]; omega) | (simp only [List.length_map, List.length_drop]; omega)) (by (try simp at hg) <;> first | omega | (simp only [List.length_map]; omega) | (simp only [List.length_map, List.length_drop]; omega)) (by omega))) ?_
            refine calm_gloadC (f := Site.cells) 0 (wT rfl rfl rfl rfl) rfl rfl (fun hg => (ev_g hg rfl)) rfl (fun hg => by (try simp at hg) <;> (first | assumption | omega | (simp only [List.length_drop]; omega))) (fun _ => ld_aggC rfl) ?_
            refine calm_g (wT rfl rfl rfl rfl) rfl (fun hg => (eff_call [] rfl (ev_g hg rfl) (evs_cons (ev_g hg rfl) (evs_cons (ev_g hg rfl) evs_nil)) (c_cmpSite _ _) List.nodup_nil)) ?_
            refine calm_g (wT rfl rfl rfl rfl) rfl (fun hg => (eff_icmp rfl (ev_g hg rfl) rfl rfl)) ?_
            refine calm_g (wT rfl rfl rfl rfl) rfl (fun hg => (eff_not rfl (ev_g hg rfl))) ?_
            refine calm_e (w0 rfl) rfl (eff_and rfl rfl rfl (fun h => h)) ?_
            refine .done ?_
            refine aops_nil ?_
            refine awp_cond rfl ?_ ?_
            · intro hc
              have ha0 : 0 < x.2.1 := by have := andL hc; simpa using this
              have hpe := notT (andR hc)
              refine awp_seq ?_
              refine awp_region ?_
              refine aops_e (w0 rfl) rfl (eff_move rfl rfl) ?_
              refine aops_e (w0 rfl) rfl (eff_move rfl rfl) ?_
              refine aops_e (w0 rfl) rfl (eff_move rfl rfl) ?_
              refine aops_e (w0 rfl) rfl (eff_move rfl rfl) ?_
              refine aops_e (w0 rfl) rfl (eff_move rfl rfl) ?_
              refine aops_callP [_] _ (w0 rfl) rfl rfl rfl rfl (perm_get (k := 0) rfl) (c_partEF q n _ (by omega) hN x.2.1 x.2.2.1 p2 hp2'.1 hp2'.2 (by omega)) (fun v40 hv40 => ?_)
              refine aops_e (w0 rfl) rfl (eff_assign rfl rfl) ?_
              refine aops_nil ?_
              refine awp_seq ?_
              refine awp_region ?_
              refine aops_e (w0 rfl) rfl (eff_move rfl rfl) ?_
              refine aops_e (w0 rfl) rfl (eff_assign rfl rfl) ?_
              refine aops_nil ?_
              refine awp_exit ?_
              refine ⟨(v40.1, v40.2, x.2.2.1, x.2.2.2.1, x.2.2.2.2.1, x.2.2.2.2.2), (by obtain ⟨j, e, he⟩ := hv40.2.2.2.2; exact (hJ3.move (by omega) hv40.1).equal sLtT.ok (by omega) ha0 (by rw [hv40.1.out (.inl (by omega)), hv40.2.2.2.1]; exact hpe) he e hv40.2.1 hv40.2.2.1), (by (try simp only) <;> (have := hv40.2.1; omega)), ?_⟩
              exact weak_pick [0] ⟨rfl, rfl, rfl, rfl, rfl, rfl, rfl, trivial⟩ rfl (by decide) rfl rfl
            · intro hc
              refine awp_skip ?_
              refine awp_seq ?_
              refine awp_region ?_
              refine aops_e (w0 rfl) rfl (eff_move rfl rfl) ?_
              refine aops_e (w0 rfl) rfl (eff_move rfl rfl) ?_
              refine aops_e (w0 rfl) rfl (eff_move rfl rfl) ?_
              refine aops_e (w0 rfl) rfl (eff_move rfl rfl) ?_
              refine aops_e (w0 rfl) rfl (eff_move rfl rfl) ?_
              refine aops_callP [_] _ (w0 rfl) rfl rfl rfl rfl (perm_get (k := 0) rfl) (c_partF q n _ (by omega) hN x.2.1 x.2.2.1 p2 hp2'.1 hp2'.2 (by omega)) (fun v41 hv41 => ?_)
              refine aops_e (w0 rfl) rfl (eff_move rfl rfl) ?_
              refine aops_e (w0 rfl) rfl (eff_extract rfl rfl rfl) ?_
              refine aops_e (w0 rfl) rfl (eff_extract rfl rfl rfl) ?_
              refine aops_e (w0 rfl) rfl (eff_assign rfl rfl) ?_
              refine aops_e (w0 rfl) rfl (eff_assign rfl rfl) ?_
              refine aops_nil ?_
              refine awp_seq ?_
              refine awp_region ?_
              refine aops_e (w0 rfl) rfl (eff_move rfl rfl) ?_
              refine aops_e (w0 rfl) rfl (eff_assign rfl rfl) ?_
              refine aops_nil ?_
              refine awp_seq ?_
              have hJ4 := hJ3.move (by omega) hv41.1
              have hl4 := hJ4.sw.len
              have hmid : x.2.1 ≤ v41.2.1 ∧ v41.2.1 < x.2.2.1 := ⟨hv41.2.1, hv41.2.2.1⟩
              refine awp_region ?_
              refine aops_e (w0 rfl) rfl (eff_move rfl rfl) ?_
              refine aops_e (w0 rfl) rfl (eff_move rfl rfl) ?_
              refine aops_e (w0 rfl) rfl (eff_arith rfl rfl rfl (arith_sub (by first | omega | (simp only [List.length_map]; omega)))) ?_
              refine aops_e (w0 rfl) rfl (eff_move rfl rfl) ?_
              refine aops_e (w0 rfl) rfl (eff_move rfl rfl) ?_
              refine aops_e (w0 rfl) rfl (eff_arith rfl rfl rfl (arith_sub (by first | omega | (simp only [List.length_map]; omega)))) ?_
              refine aops_e (w0 rfl) rfl (eff_assign rfl rfl) ?_
              refine aops_e (w0 rfl) rfl (eff_assign rfl rfl) ?_
              refine aops_nil ?_
              refine awp_seq ?_
              refine awp_region ?_
              refine aops_e (w0 rfl) rfl (eff_move rfl rfl) ?_
              refine aops_e (w0 rfl) rfl (eff_to (y := iA ((x.2.2.1 - x.2.1) / 8 : Nat)) (eff_quo rfl rfl rfl (by decide) (tdivN_ok (x.2.2.1 - x.2.1) 8 (by omega))) (congrArg iA (tdivN (x.2.2.1 - x.2.1) 8))) ?_
              refine aops_e (w0 rfl) rfl (eff_assign rfl rfl) ?_
              refine aops_nil ?_
              refine awp_seq ?_
              refine awp_region ?_
              refine aops_e (w0 rfl) rfl (eff_move rfl rfl) ?_
              refine aops_e (w0 rfl) rfl (eff_move rfl rfl) ?_
              refine aops_e (w0 rfl) rfl (eff_icmp rfl rfl rfl rfl) ?_
              refine aops_nil ?_
              refine awp_cond rfl ?_ ?_
              · intro hc
                refine awp_seq ?_
                refine awp_region ?_
                refine aops_e (w0 rfl) rfl (eff_move rfl rfl) ?_
                refine aops_e (w0 rfl) rfl (eff_move rfl rfl) ?_
                refine aops_e (w0 rfl) rfl (eff_icmp rfl rfl rfl rfl) ?_
                refine aops_e (w0 rfl) rfl (eff_assign rfl rfl) ?_
                refine aops_nil ?_
                refine awp_seq ?_
                refine awp_genB 10 rfl (fun wb hwb => ?_)
                refine awp_region ?_
                refine aops_e (w0 rfl) rfl (eff_move rfl rfl) ?_
                refine aops_e (w0 rfl) rfl (eff_move rfl rfl) ?_
                refine aops_e (w0 rfl) rfl (eff_move rfl rfl) ?_
                refine aops_e (w0 rfl) rfl (eff_move rfl rfl) ?_
                refine aops_e (w0 rfl) rfl (eff_move rfl rfl) ?_
                refine aops_callP [_] _ (w0 rfl) rfl rfl rfl rfl (perm_get (k := 0) rfl) (ih (v41.2.1 - x.2.1) (by omega) _ (by omega) x.2.1 v41.2.1 _ (Nat.le_refl _) (by omega) (by omega) (hJ4.bd.le (by omega))) (fun v42 hv42 => ?_)
                refine aops_nil ?_
                refine awp_region ?_
                refine aops_e (w0 rfl) rfl (eff_move rfl rfl) ?_
                refine aops_e (w0 rfl) rfl (eff_arith rfl rfl rfl (arith_add (by first | omega | (simp only [List.length_map]; omega)))) ?_
                refine aops_e (w0 rfl) rfl (eff_assign rfl rfl) ?_
                refine aops_nil ?_
                refine ⟨(v42, v41.2.1 + 1, x.2.2.1, x.2.2.2.1, wb, v41.2.2), (hJ4.lower sLtT.ok (by omega) hmid hv41.2.2.2 hv42.1 hv42.2), (by (try simp only) <;> omega), ?_⟩
                exact weak_pick [0] ⟨rfl, rfl, rfl, rfl, rfl, rfl, rfl, trivial⟩ rfl (by decide) rfl rfl
              · intro hc
                refine awp_seq ?_
                refine awp_region ?_
                refine aops_e (w0 rfl) rfl (eff_move rfl rfl) ?_
                refine aops_e (w0 rfl) rfl (eff_move rfl rfl) ?_
                refine aops_e (w0 rfl) rfl (eff_icmp rfl rfl rfl rfl) ?_
                refine aops_e (w0 rfl) rfl (eff_assign rfl rfl) ?_
                refine aops_nil ?_
                refine awp_seq ?_
                refine awp_genB 10 rfl (fun wb hwb => ?_)
                refine awp_region ?_
                refine aops_e (w0 rfl) rfl (eff_move rfl rfl) ?_
                refine aops_e (w0 rfl) rfl (eff_move rfl rfl) ?_
                refine aops_e (w0 rfl) rfl (eff_arith rfl rfl rfl (arith_add (by first | omega | (simp only [List.length_map]; omega)))) ?_
                refine aops_e (w0 rfl) rfl (eff_move rfl rfl) ?_
                refine aops_e (w0 rfl) rfl (eff_move rfl rfl) ?_
                refine aops_e (w0 rfl) rfl (eff_move rfl rfl) ?_
                refine aops_callP [_] _ (w0 rfl) rfl rfl rfl rfl (perm_get (k := 0) rfl) (ih (x.2.2.1 - (v41.2.1 + 1)) (by omega) _ (by omega) (v41.2.1 + 1) x.2.2.1 _ (Nat.le_refl _) (by omega) (by omega) hv41.2.2.2.bd) (fun v43 hv43 => ?_)
                refine aops_nil ?_
                refine awp_region ?_
                refine aops_e (w0 rfl) rfl (eff_move rfl rfl) ?_
                refine aops_e (w0 rfl) rfl (eff_assign rfl rfl) ?_
                refine aops_nil ?_
                refine ⟨(v43, x.2.1, v41.2.1, x.2.2.2.1, wb, v41.2.2), (hJ4.upper sLtT.ok (by omega) hmid hv41.2.2.2 hv43.1 hv43.2), (by (try simp only) <;> omega), ?_⟩
                exact weak_pick [0] ⟨rfl, rfl, rfl, rfl, rfl, rfl, rfl, trivial⟩ rfl (by decide) rfl rfl

theorem c_sortF (q n : Nat) (l : List Site) (hn : l.length = n) (hN : n ≤ 140737488355328)  : ACalls Try.prog 51 [.own q 5 0 n, .fn (.func 26) []] [(q, .rows 26 5 (l.map Site.cells))] (GP (fun _ : List Site => mkRes []) (fun m => [(q, .rows 26 5 (m.map Site.cells))]) (fun m => m.Perm l ∧ SOn sLt 0 n m)) := by
  refine acalls_of (n := 14) Try.func51 rfl (by decide +kernel) rfl rfl ?_
  refine awp_seq ?_
  refine awp_region ?_
  refine aops_e (w0 rfl) rfl (eff_move rfl rfl) ?_
  refine aops_e (w0 rfl) rfl (eff_len rfl rfl rfl rfl) ?_
  refine aops_e (w0 rfl) rfl (eff_assign rfl rfl) ?_
  refine aops_nil ?_
  refine awp_region ?_
  refine aops_e (w0 rfl) rfl (eff_move rfl rfl) ?_
  refine aops_e (w0 rfl) rfl (eff_move rfl rfl) ?_
  refine aops_e (w0 rfl) rfl (eff_move rfl rfl) ?_
  refine aops_e (w0 rfl) rfl (eff_to (y := xA n) (eff_convInt rfl rfl) (congrArg xA (u64_wrap (by omega)))) ?_
  refine aops_callS (w0 rfl) rfl rfl rfl rfl (c_bitsLen n (by omega)) (fun v1 hv1 => ?_)
  refine aops_e (w0 rfl) rfl (eff_move rfl rfl) ?_
  refine aops_callP [_] _ (w0 rfl) rfl rfl rfl rfl (perm_get (k := 0) rfl) (c_pdqF q n hN n l hn 0 n _ (by omega) (by omega) (Nat.le_refl _) (.inl rfl)) (fun v2 hv2 => ?_)
  refine aops_nil ?_
  exact retq_keep rfl res_nil (.cons_cons _ .slnil) (gp v2 ⟨hv2.1.perm, hv2.2⟩ rfl rfl)

end Go.Sx
