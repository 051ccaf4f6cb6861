/- Numbers as bytes and back: plain laws of pack's form. -/
import Derived.Test.YteajgnoimbdkbaaGreatDoorRep
namespace Go.Proofs.YteajgnoimbdkbaaGreatDoor

/-- A number from 0 on as bytes: seven bits each, the lowest first. -/
def uintL (n : Nat) : List UInt8 := if h : n < 128 then [n.toUInt8] else (n % 128 + 128).toUInt8 :: uintL (n / 128)
termination_by n
/-- The number that bytes begin with, how many bytes it has, and the error's number; from the i-th byte on, so many at most. -/
def numGo (b : List UInt8) : Nat → Nat → Nat → Nat × Nat × Int
  | 0, _, _ => (0, 0, 3)
  | k + 1, i, acc =>
    match b[i]? with
    | none => (0, 0, 12)
    | some c =>
      if k = 0 ∧ 1 < c.toNat then (0, 0, 3)
      else if c.toNat < 128 then (if c.toNat = 0 ∧ 0 < i then (0, 0, 3) else (acc + c.toNat * 128 ^ i, i + 1, 0))
      else numGo b k (i + 1) (acc + c.toNat % 128 * 128 ^ i)
def numF (b : List UInt8) : Nat × Nat × Int := numGo b 10 0 0

theorem uintL_small {n : Nat} (h : n < 128) : uintL n = [n.toUInt8] := by rw [uintL, dif_pos h]
theorem uintL_big {n : Nat} (h : ¬n < 128) : uintL n = (n % 128 + 128).toUInt8 :: uintL (n / 128) := by rw [uintL, dif_neg h]
theorem toUInt8_toNat {n : Nat} (h : n < 256) : n.toUInt8.toNat = n := by
  show (UInt8.ofNat n).toNat = n
  rw [UInt8.toNat_ofNat']
  omega
/-- What uintL lays is read as it: with k bytes allowed from the i-th on. -/
theorem num_uint (pre rest : List UInt8) : ∀ (k n acc : Nat), n < 128 ^ k * 2 → (0 < pre.length → 0 < n) →
    numGo (pre ++ (uintL n ++ rest)) (k + 1) pre.length acc = (acc + n * 128 ^ pre.length, pre.length + (uintL n).length, 0) := by
  intro k
  induction k generalizing pre with
  | zero =>
    intro n acc hn hp
    have h2 : n < 2 := by simpa using hn
    rw [uintL_small (by omega), numGo]
    have hg : (pre ++ ([n.toUInt8] ++ rest))[pre.length]? = some n.toUInt8 := by simp
    rw [hg]
    simp only [toUInt8_toNat (show n < 256 by omega)]
    rw [if_neg (by omega), if_pos (by omega), if_neg (by omega)]
    rfl
  | succ k ih =>
    intro n acc hn hp
    by_cases h : n < 128
    · rw [uintL_small h, numGo]
      have hg : (pre ++ ([n.toUInt8] ++ rest))[pre.length]? = some n.toUInt8 := by simp
      rw [hg]
      simp only [toUInt8_toNat (show n < 256 by omega)]
      rw [if_neg (by omega), if_pos h, if_neg (by omega)]
      rfl
    · rw [uintL_big h, numGo]
      have hg : (pre ++ ((n % 128 + 128).toUInt8 :: uintL (n / 128) ++ rest))[pre.length]? = some (n % 128 + 128).toUInt8 := by simp
      rw [hg]
      simp only [toUInt8_toNat (show n % 128 + 128 < 256 by omega)]
      rw [if_neg (by omega), if_neg (by omega)]
      have e : pre ++ ((n % 128 + 128).toUInt8 :: uintL (n / 128) ++ rest) = (pre ++ [(n % 128 + 128).toUInt8]) ++ (uintL (n / 128) ++ rest) := by simp
      have hl : (pre ++ [(n % 128 + 128).toUInt8]).length = pre.length + 1 := by simp
      have h3 : n / 128 < 128 ^ k * 2 := by
        rw [Nat.pow_succ] at hn
        omega
      have := ih (pre ++ [(n % 128 + 128).toUInt8]) (n / 128) (acc + (n % 128 + 128) % 128 * 128 ^ pre.length) h3 (fun _ => by omega)
      rw [hl] at this
      rw [e, this]
      have e2 : acc + (n % 128 + 128) % 128 * 128 ^ pre.length + n / 128 * 128 ^ (pre.length + 1) = acc + n * 128 ^ pre.length := by
        rw [Nat.pow_succ, show (n % 128 + 128) % 128 = n % 128 by omega, Nat.add_assoc, Nat.mul_comm (128 ^ pre.length) 128, ← Nat.mul_assoc, ← Nat.add_mul]
        congr 2
        omega
      rw [e2]
      simp only [List.length_cons]
      congr 2
      omega
theorem num_back (n : Nat) (rest : List UInt8) (hn : n < 18446744073709551616) : numF (uintL n ++ rest) = (n, (uintL n).length, 0) := by
  have := num_uint [] rest 9 n 0 (by omega) (fun h => absurd h (by simp))
  simpa [numF] using this
theorem uintL_pos (n : Nat) : 0 < (uintL n).length := by
  by_cases h : n < 128
  · rw [uintL_small h]; simp
  · rw [uintL_big h]; simp

/-- A number of either sign as one from 0 on, and back. -/
def zigF (n : Int) : Nat := if 0 ≤ n then 2 * n.toNat else 2 * (-n).toNat - 1
def zagF (u : Nat) : Int := if u % 2 = 0 then (u / 2 : Nat) else -((u / 2 : Nat) : Int) - 1
theorem zag_zig (n : Int) : zagF (zigF n) = n := by
  unfold zigF zagF
  by_cases h : 0 ≤ n
  · rw [if_pos h, if_pos (by omega)]; omega
  · rw [if_neg h, if_neg (by omega)]; omega
theorem zigF_lt (n : Int) (h0 : -9223372036854775808 ≤ n) (h1 : n ≤ 9223372036854775807) : zigF n < 18446744073709551616 := by
  unfold zigF
  split <;> omega
end Go.Proofs.YteajgnoimbdkbaaGreatDoor
