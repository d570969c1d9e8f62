/- How many bits a number has; numbers cut to a power of two. -/
import Derived.Test.YtaphgfiboidpbaaBaSxDrawW
set_option linter.unusedVariables false
set_option linter.unusedSimpArgs false
namespace Go.Sx
open Go
abbrev xA (n : Int) : AV := .v (.int .u64 n)
theorem u64_wrap {n : Int} (h : 0 ≤ n ∧ n < 18446744073709551616) : IntKind.u64.wrap n = n := by
  unfold IntKind.wrap
  simp [IntKind.bits, IntKind.signed]
  omega
theorem u8_wrap {n : Int} (h : 0 ≤ n ∧ n < 256) : IntKind.u8.wrap n = n := by
  unfold IntKind.wrap
  simp [IntKind.bits, IntKind.signed]
  omega
def LenJ (x y n : Nat) : Prop := y * 2 ^ n ≤ x ∧ (0 < x → 0 < y)
theorem LenJ.start (x : Nat) : LenJ x x 0 := ⟨by simp, id⟩
theorem LenJ.shr {x y n : Nat} (h : LenJ x y n) (s : Nat) (hy : 2 ^ s ≤ y) : LenJ x (y / 2 ^ s) (n + s) := by
  refine ⟨?_, fun _ => Nat.div_pos hy (Nat.two_pow_pos s)⟩
  have h1 : y / 2 ^ s * 2 ^ s ≤ y := Nat.div_mul_le_self y (2 ^ s)
  calc y / 2 ^ s * 2 ^ (n + s) = (y / 2 ^ s * 2 ^ s) * 2 ^ n := by rw [Nat.pow_add]; simp only [Nat.mul_assoc, Nat.mul_comm, Nat.mul_left_comm]
    _ ≤ y * 2 ^ n := Nat.mul_le_mul_right _ h1
    _ ≤ x := h.1
theorem LenJ.fin {x y n t : Nat} (h : LenJ x y n) (ht : 0 < y → 2 ^ t ≤ 2 * y) (hx : 0 < x) : 2 ^ (n + t) ≤ 2 * x := by
  have h1 := ht (h.2 hx)
  calc 2 ^ (n + t) = 2 ^ t * 2 ^ n := by rw [Nat.pow_add, Nat.mul_comm]
    _ ≤ (2 * y) * 2 ^ n := Nat.mul_le_mul_right _ h1
    _ = 2 * (y * 2 ^ n) := by rw [Nat.mul_assoc]
    _ ≤ 2 * x := Nat.mul_le_mul_left _ h.1
theorem shrN (x k : Nat) (hk : k ≤ 64) : ((x : Int)).fdiv (2 ^ (min ((k : Int)).toNat 64)) = ((x / 2 ^ k : Nat) : Int) := by
  have e : min ((k : Int)).toNat 64 = k := by omega
  rw [e, Int.ofNat_fdiv]; simp
theorem and_lt {v : Int} {m : Nat} (h0 : 0 < m) (hm : m ≤ 4611686018427387904) : 0 ≤ IntKind.i64.wrap (bitsI .and .u64 v (IntKind.u64.wrap ((m : Int) - 1))) ∧ IntKind.i64.wrap (bitsI .and .u64 v (IntKind.u64.wrap ((m : Int) - 1))) < m := by
  rw [u64_wrap (n := (m : Int) - 1) (by omega)]
  have e : (BitVec.ofInt IntKind.u64.bits ((m : Int) - 1)).toNat = m - 1 := by
    rw [BitVec.toNat_ofInt]
    simp [IntKind.bits]
    omega
  have hle : (BitVec.ofInt IntKind.u64.bits v &&& BitVec.ofInt IntKind.u64.bits ((m : Int) - 1)).toNat ≤ m - 1 := by
    rw [BitVec.toNat_and, e]; exact Nat.and_le_right
  unfold bitsI
  simp only
  generalize (BitVec.ofInt IntKind.u64.bits v &&& BitVec.ofInt IntKind.u64.bits ((m : Int) - 1)).toNat = d at hle ⊢
  rw [u64_wrap (by omega), i64_wrap (by omega)]
  omega
theorem pow_shl {x k : Nat} (h0 : 0 < x) (hx : x ≤ 140737488355328) (hk : k ≤ 64 ∧ (0 < x → 2 ^ k ≤ 2 * x)) : IntKind.u64.wrap (1 * 2 ^ (min ((k : Int)).toNat IntKind.u64.bits)) = ((2 ^ k : Nat) : Int) := by
  have h := hk.2 h0
  have e : min ((k : Int)).toNat IntKind.u64.bits = k := by simp [IntKind.bits]; omega
  rw [e, Int.one_mul, show ((2 : Int) ^ k) = ((2 ^ k : Nat) : Int) from by simp]
  have h2 : (0 : Int) ≤ ((2 ^ k : Nat) : Int) := Int.natCast_nonneg _
  have h3 : ((2 ^ k : Nat) : Int) ≤ ((2 * x : Nat) : Int) := Int.ofNat_le.2 h
  generalize ((2 ^ k : Nat) : Int) = z at *
  exact u64_wrap (by omega)
def len8 : ByteArray := ⟨#[0, 1, 2, 2, 3, 3, 3, 3, 4, 4, 4, 4, 4, 4, 4, 4, 5, 5, 5, 5, 5, 5, 5, 5, 5, 5, 5, 5, 5, 5, 5, 5, 6, 6, 6, 6, 6, 6, 6, 6, 6, 6, 6, 6, 6, 6, 6, 6, 6, 6, 6, 6, 6, 6, 6, 6, 6, 6, 6, 6, 6, 6, 6, 6, 7, 7, 7, 7, 7, 7, 7, 7, 7, 7, 7, 7, 7, 7, 7, 7, 7, 7, 7, 7, 7, 7, 7, 7, 7, 7, 7, 7, 7, 7, 7, 7, 7, 7, 7, 7, 7, 7, 7, 7, 7, 7, 7, 7, 7, 7, 7, 7, 7, 7, 7, 7, 7, 7, 7, 7, 7, 7, 7, 7, 7, 7, 7, 7, 8, 8, 8, 8, 8, 8, 8, 8, 8, 8, 8, 8, 8, 8, 8, 8, 8, 8, 8, 8, 8, 8, 8, 8, 8, 8, 8, 8, 8, 8, 8, 8, 8, 8, 8, 8, 8, 8, 8, 8, 8, 8, 8, 8, 8, 8, 8, 8, 8, 8, 8, 8, 8, 8, 8, 8, 8, 8, 8, 8, 8, 8, 8, 8, 8, 8, 8, 8, 8, 8, 8, 8, 8, 8, 8, 8, 8, 8, 8, 8, 8, 8, 8, 8, 8, 8, 8, 8, 8, 8, 8, 8, 8, 8, 8, 8, 8, 8, 8, 8, 8, 8, 8, 8, 8, 8, 8, 8, 8, 8, 8, 8, 8, 8, 8, 8, 8, 8, 8, 8, 8, 8, 8, 8, 8, 8, 8, 8]⟩
theorem len8_ok : ∀ y : Fin 256, 0 ≤ byteAt len8 (y.val : Int) ∧ byteAt len8 (y.val : Int) ≤ 8 ∧ (0 < y.val → 2 ^ (byteAt len8 (y.val : Int)).toNat ≤ 2 * y.val) := by decide +kernel
theorem sidx_len8 {u : ByteArray} (h : u = len8) (k : Int) : uA (byteAt u k) = uA (byteAt len8 k) := by rw [h]
theorem lt_len8 {u : ByteArray} {k : Int} (h : u = len8) (hk : k < 256) : k < u.size := by rw [h, show len8.size = 256 from by decide +kernel]; exact hk
variable {P : Program} {ro : Option Nat} {Q : Exit → St → Prop} {s : St}
theorem awp_genN {c : Code} {k : IntKind} {b : Nat} (t : Nat) (ht : lk s.T t = some (.v (.int k (b : Int)))) (h : ∀ d : Nat, d = b → AWp P ro c Q { s with T := (t, .v (.int k (d : Int))) :: s.T }) : AWp P ro c Q s := awp_weak (weak_put ht) (h b rfl)
end Go.Sx
