/-
Bits of numbers that are not negative, and the number of a list's bits, element by element: with no program in sight.
-/
import Derived.Test.YtcngnfnljkkjgaaCmU
import Derived.Lib.QuoteBits
namespace Go.Proofs.Ytcngnfnljkkjgaa
open Go.RowKit

theorem ofI64 (a : Nat) (ha : a < 65536) : (BitVec.ofInt 64 (a : Int)).toNat = a := by
  rw [BitVec.ofInt_natCast, BitVec.toNat_ofNat]
  exact Nat.mod_eq_of_lt (by omega)
theorem or_i64 (a b : Nat) (ha : a < 4096) (hb : b < 4096) : bits .or .i64 (a : Int) (b : Int) = ((a ||| b : Nat) : Int) := by
  have hx : a ||| b < 2 ^ 12 := Nat.or_lt_two_pow (by omega) (by omega)
  show IntKind.i64.wrap ((BitVec.ofInt 64 (a : Int) ||| BitVec.ofInt 64 (b : Int)).toNat : Int) = _
  rw [BitVec.toNat_or, ofI64 a (by omega), ofI64 b (by omega)]
  exact Lib.wrap_i64_small _ (by omega)
theorem and_i64 (a b : Nat) (ha : a < 65536) (hb : b < 65536) : bits .and .i64 (a : Int) (b : Int) = ((a &&& b : Nat) : Int) := by
  have hx : a &&& b < 2 ^ 16 := Nat.and_lt_two_pow _ (by omega)
  show IntKind.i64.wrap ((BitVec.ofInt 64 (a : Int) &&& BitVec.ofInt 64 (b : Int)).toNat : Int) = _
  rw [BitVec.toNat_and, ofI64 a (by omega), ofI64 b (by omega)]
  exact Lib.wrap_i64_small _ (by omega)
theorem enc_snoc : ∀ (s : List Int) (x : Int), encS (s ++ [x]) = encS s ||| 2 ^ x.toNat
  | [], x => by simp [encS]
  | y :: s, x => by
    rw [List.cons_append, encS, enc_snoc s x, encS, Nat.or_assoc]
theorem enc_take {l : List Int} {k m : Nat} (hx : l[k]? = some (m : Int)) : encS (l.take (k + 1)) = encS (l.take k) ||| 2 ^ m := by
  rw [List.take_add_one, hx]
  show encS (l.take k ++ [(m : Int)]) = _
  rw [enc_snoc]
  simp
theorem enc_take_lt {n : Nat} {l : List Int} (h : ∀ x ∈ l, 0 ≤ x ∧ x < (n : Int)) (k : Nat) : encS (l.take k) < 2 ^ n := enc_lt fun x hx => h x (List.mem_of_mem_take hx)
end Go.Proofs.Ytcngnfnljkkjgaa
