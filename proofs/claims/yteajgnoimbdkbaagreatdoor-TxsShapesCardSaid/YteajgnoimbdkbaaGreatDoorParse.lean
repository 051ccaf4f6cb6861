/- sha.Parse: the sum of digits. -/
import Derived.Test.YteajgnoimbdkbaaGreatDoorText
import Derived.Deep.RegionWith
namespace Go.Proofs.YteajgnoimbdkbaaGreatDoor
open Go.RowKit

theorem idx_lt (l : List UInt8) (c : UInt8) : Lib.indexByte l c < l.length := by
  induction l with
  | nil => simp [Lib.indexByte]
  | cons b l ih =>
    unfold Lib.indexByte
    simp only [List.length_cons]
    split
    · omega
    · split <;> omega
/-- The number of a digit (0 of what is none). -/
def nib (c : UInt8) : Int := max 0 (Lib.indexByte [48, 49, 50, 51, 52, 53, 54, 55, 56, 57, 97, 98, 99, 100, 101, 102] c)
theorem nib_range (c : UInt8) : 0 ≤ nib c ∧ nib c < 16 := by
  have h := idx_lt [48, 49, 50, 51, 52, 53, 54, 55, 56, 57, 97, 98, 99, 100, 101, 102] c
  unfold nib
  simp only [List.length_cons, List.length_nil] at h
  omega
/-- The bytes behind so many digits. -/
def partP (s : ByteArray) (i k : Nat) : Int :=
  if 2 * k + 1 < i then nib (s.data.toList.getD (2 * k) 0) * 16 + nib (s.data.toList.getD (2 * k + 1) 0) else if 2 * k < i then nib (s.data.toList.getD (2 * k) 0) else 0
def parseV (s : ByteArray) (k : Nat) : Int := partP s (min s.size 64) k
theorem partP_range (s : ByteArray) (i k : Nat) : 0 ≤ partP s i k ∧ partP s i k < 256 := by
  have h1 := nib_range (s.data.toList.getD (2 * k) 0)
  have h2 := nib_range (s.data.toList.getD (2 * k + 1) 0)
  unfold partP
  split
  · omega
  · split <;> omega
theorem or_nib (a b : Int) (ha : 0 ≤ a ∧ a < 16) (hb : 0 ≤ b ∧ b < 16) : bits .or .u8 (a * 16 % 256) b = a * 16 + b := by
  have h : ∀ a : Fin 16, ∀ b : Fin 16, bits .or .u8 (((a : Nat) : Int) * 16 % 256) ((b : Nat) : Int) = ((a : Nat) : Int) * 16 + ((b : Nat) : Int) := by decide +kernel
  have := h ⟨a.toNat, by omega⟩ ⟨b.toNat, by omega⟩
  simpa [Int.toNat_of_nonneg ha.1, Int.toNat_of_nonneg hb.1] using this
theorem partP_next (s : ByteArray) (j : Nat) (hj : j < s.size) : bits .or .u8 (IntKind.u8.wrap (partP s j (j / 2) * 16)) (IntKind.u8.wrap (nib s[j])) = partP s (j + 1) (j / 2) := by
  have hg : s.data.toList.getD j 0 = s[j] := by simp [List.getD_eq_getElem?_getD, ByteArray.getElem_eq_getElem_data, hj]
  have h1 := nib_range s[j]
  have e1 : IntKind.u8.wrap (nib s[j]) = nib s[j] := by rw [IntKind.wrap_u8]; omega
  rw [e1, IntKind.wrap_u8]
  rcases Nat.mod_two_eq_zero_or_one j with h | h
  · obtain ⟨k, rfl⟩ : ∃ k, j = 2 * k := ⟨j / 2, by omega⟩
    rw [show 2 * k / 2 = k by omega]
    have a0 : partP s (2 * k) k = 0 := by rw [partP, if_neg (by omega), if_neg (by omega)]
    have a1 : partP s (2 * k + 1) k = nib s[2 * k] := by rw [partP, if_neg (by omega), if_pos (by omega), hg]
    rw [a0, a1, or_nib 0 _ (by omega) h1]
    omega
  · obtain ⟨k, rfl⟩ : ∃ k, j = 2 * k + 1 := ⟨j / 2, by omega⟩
    rw [show (2 * k + 1) / 2 = k by omega]
    have h2 := nib_range (s.data.toList.getD (2 * k) 0)
    have a0 : partP s (2 * k + 1) k = nib (s.data.toList.getD (2 * k) 0) := by rw [partP, if_neg (by omega), if_pos (by omega)]
    have a1 : partP s (2 * k + 1 + 1) k = nib (s.data.toList.getD (2 * k) 0) * 16 + nib s[2 * k + 1] := by rw [partP, if_pos (by omega), hg]
    rw [a0, a1, or_nib _ _ h2 h1]
theorem partP_other (s : ByteArray) (j k : Nat) (h : ¬k = j / 2) : partP s (j + 1) k = partP s j k := by
  unfold partP
  by_cases h1 : 2 * k + 1 < j
  · rw [if_pos h1, if_pos (by omega)]
  · have h2 : ¬2 * k < j := by omega
    rw [if_neg h1, if_neg h2, if_neg (by omega), if_neg (by omega)]
theorem Marks.drew {w : World} {g n : Nat} {f : Nat → Int} (h : Marks w g n f) : Marks w.drew g n f := ⟨fun k hk => h.1 k hk, fun o => h.2 o⟩
/-- Are the digits those of the bytes that they make? -/
def shaOk (s : ByteArray) : Bool := (textS (parseV s)).toList == s.toList

def ShaParsePost (s : ByteArray) (w : World) (e : Ending) (w' : World) : Prop :=
  ∃ ev, e = .returned (.tuple #[bytesV 32 (if shaOk s then parseV s else fun _ => 0), ev]) ∧ IsErr w' ev (if shaOk s then 0 else 3) ∧ Below w.heap.size w w'

set_option maxRecDepth 100000 in
set_option maxHeartbeats 2000000 in
theorem shaParse_any (s : ByteArray) (w : World) (hs : s.size ≤ 9223372036854775807) :
    Calls Tryz.prog 66 #[.string s] w (ShaParsePost s w) := by
  have hM0 := marks_zeros (w.alloc (.cells (Array.replicate 32 (.int .u8 0)) 62)) 62 32
  have hR0 := (marks_zeros w 62 32).keep (by simp) (below_alloc _ (.cells (Array.replicate 32 (.int .u8 0)) 62))
  have hB0 := (below_alloc w (.cells (Array.replicate 32 (.int .u8 0)) 62)).alloc (by simp) (.cells (Array.replicate 32 (.int .u8 0)) 62)
  rw [World.size_alloc] at hM0
  go_enter Tryz.func66, Tryz.ntmps66
  go_wp2_with fail
  go_loopg [9] (min s.size 64) (fun k v wq => ∃ j : Nat, j + k = min s.size 64 ∧ v = .int .i64 j ∧ Marks wq (w.heap.size + 1) 32 (partP s j) ∧ Marks wq w.heap.size 32 (fun _ => 0) ∧ Below w.heap.size w wq)
  case atStart => exact ⟨0, by omega, rfl, by rw [show partP s 0 = fun _ => 0 from funext fun k => by simp [partP]]; exact hM0, hR0, hB0⟩
  case round =>
    clear hM0 hR0 hB0
    obtain ⟨j, hj, rfl, hM, hR, hB⟩ := hrel
    by_cases hlt : j < min s.size 64
    · have m0 := hM.1 (j / 2) (by omega)
      have mf := hM.2
      have hjs : j < s.size := by omega
      have hval : bits .or .u8 (IntKind.u8.wrap (partP s j (j / 2) * 16)) (IntKind.u8.wrap (nib s[j])) = partP s (j + 1) (j / 2) := partP_next s j hjs
      have e1 : (0 : Int) ≤ (j : Int) / 2 := by omega
      have e2 : (j : Int) / 2 < 32 := by omega
      have e3 : ((j : Int) / 2).toNat = j / 2 := by omega
      have e4 : IntKind.i64.wrap ((j : Int) / 2) = ((j / 2 : Nat) : Int) := by have := IntKind.wrap_i64 ((j : Int) / 2); omega
      have e5 : ((j / 2 : Nat) : Int) < 32 := by omega
      have hgx : s[j]? = some s[j] := by simp [hjs]
      have cI := fun W => Tryz.strings_IndexByte ⟨#[48, 49, 50, 51, 52, 53, 54, 55, 56, 57, 97, 98, 99, 100, 101, 102]⟩ (s[j].toNat : Int) W
      have hni : max 0 (Lib.indexByte (ByteArray.mk #[48, 49, 50, 51, 52, 53, 54, 55, 56, 57, 97, 98, 99, 100, 101, 102]).data.toList ((s[j].toNat : Int)).toNat.toUInt8) = nib s[j] := by simp [nib]
      obtain ⟨n0, n1⟩ := nib_range s[j]
      have HP : ∀ u, u = partP s (j + 1) (j / 2) → Marks (wr.setCell ⟨w.heap.size + 1, j / 2, none⟩ (.int .u8 u)) (w.heap.size + 1) 32 (partP s (j + 1)) := fun u hu => by
        have h := hM.set (i := j / 2) (by omega) u
        refine ⟨fun k hk => ?_, h.2⟩
        have h1 := h.1 k hk
        rw [h1]
        by_cases e : k = j / 2
        · subst e
          simp [hu]
        · simp only [if_neg e]
          rw [partP_other s j k e]
      have HM := Lib.hid HP
      have HV := Lib.hid hval
      have hval2 := hval
      rw [IntKind.wrap_u8, wraps_u8 _ n0 (by omega)] at hval2
      have HV2 := Lib.hid hval2
      clear hM HP hval hval2
      generalize partP s j (j / 2) = x at *
      generalize Lib.indexByte (ByteArray.mk #[48, 49, 50, 51, 52, 53, 54, 55, 56, 57, 97, 98, 99, 100, 101, 102]).data.toList ((s[j].toNat : Int)).toNat.toUInt8 = ix at *
      generalize nib s[j] = y at *
      go_wp2_with fail
      go_region_with (go_at_call 114; refine (cI _).mono ?_; rintro _ _ ⟨rfl, rfl⟩)
      all_goals
        (go_wp2_with fail
         go_roundg (min s.size 64 - (j + 1))
         case rel => exact ⟨j + 1, by omega, rfl, (HM.out _ (by first | exact HV.out | exact HV2.out)).drew, (hR.grown (cell_lt (hR.1 0 (by omega))) (grown_set ⟨rfl, rfl, rfl, Nat.le_refl _, fun _ _ _ => rfl⟩ _ _) (by simp)).drew, (hB.setCell (by simp <;> omega) _).drew⟩
         case measure => omega)
    · obtain rfl : j = min s.size 64 := by omega
      have hM2 : Marks wr (w.heap.size + 1) 32 (parseV s) := hM
      clear hM hlt
      have cT := fun W => text_any (parseV s) (fun i _ => partP_range s _ i) W
      have hz0 : w.heap.size < wr.heap.size := cell_lt (hR.1 0 (by omega))
      have hz1 : w.heap.size + 1 < wr.heap.size := cell_lt (hM2.1 0 (by omega))
      have hlt2 : ¬((min s.size 64 : Nat) : Int) < min (s.size : Int) 64 := by omega
      cases hq : shaOk s
      · have hq1 : ((textS (parseV s)).toList == s.toList) = false := hq
        have HQ := Lib.hid hq
        clear hq
        go_wp2_with (refine wpList_load_marks rfl _ 62 5 rfl (w.heap.size + 1) 32 (parseV s) Tryz.underlying62 (by kernel_rfl) rfl hM2 ?_)
        refine (cT _).mono ?_
        rintro e w1 ⟨rfl, hb1⟩
        have hR1 := hR.keep hz0 hb1
        have hB1 := hB.trans (hb1.mono hB.size)
        have hz2 : w.heap.size < w1.heap.size := cell_lt (hR1.1 0 (by omega))
        go_wp2_with (refine wpList_store_marks rfl _ _ 62 rfl w.heap.size 32 (fun _ => 0) (fun _ => 0) (by kernel_rfl) rfl rfl (hR1.keep hz2 (below_alloc _ _)) ?_; intro w2 hR2 hG2)
        have hres := run_loadVar_marks (P := Tryz.prog) w2 62 5 w.heap.size 32 _ Tryz.underlying62 (by kernel_rfl) hR2
        refine bodyPost_ret (v := .tuple #[bytesV 32 (fun _ => 0), .iface 118 (.pointer (some ⟨w1.heap.size, 0, none⟩))]) (by simp [results, Tryz.results66, asAddr, hres]) rfl ?_
        refine ⟨_, by rw [HQ.out]; rfl, ?_, (hB1.alloc (by omega) _).grown hG2 (by simp; omega) (fun k hk => by cases hk; omega)⟩
        rw [HQ.out]
        exact .inr ⟨by decide, 1, .fault 0 w1.heap.size _ _ 3 (Nat.lt_of_lt_of_le (by simp) hG2.size) ((hG2.block w1.heap.size (by simp) (by simp; omega)).trans (heap_alloc_new w1 _)) rfl (.no 3)⟩
      · have hq1 : ((textS (parseV s)).toList == s.toList) = true := hq
        have HQ := Lib.hid hq
        clear hq
        go_wp2_with (refine wpList_load_marks rfl _ 62 5 rfl (w.heap.size + 1) 32 (parseV s) Tryz.underlying62 (by kernel_rfl) rfl hM2 ?_)
        refine (cT _).mono ?_
        rintro e w1 ⟨rfl, hb1⟩
        have hR1 := hR.keep hz0 hb1
        have hM1 := hM2.keep hz1 hb1
        have hB1 := hB.trans (hb1.mono hB.size)
        go_wp2_with (first
          | (refine wpList_load_marks rfl _ 62 5 rfl (w.heap.size + 1) 32 (parseV s) Tryz.underlying62 (by kernel_rfl) rfl hM1 ?_)
          | (refine wpList_store_marks rfl _ _ 62 rfl w.heap.size 32 (fun _ => 0) (parseV s) (by kernel_rfl) rfl rfl hR1 ?_; intro w2 hR2 hG2))
        have hres := run_loadVar_marks (P := Tryz.prog) w2 62 5 w.heap.size 32 _ Tryz.underlying62 (by kernel_rfl) hR2
        refine bodyPost_ret (v := .tuple #[bytesV 32 (parseV s), .nilIface]) (by simp [results, Tryz.results66, asAddr, hres]) rfl ?_
        exact ⟨_, by rw [HQ.out]; rfl, by rw [HQ.out]; exact IsErr.nil_ _, hB1.grown hG2 hB1.size (fun k hk => by cases hk; omega)⟩
end Go.Proofs.YteajgnoimbdkbaaGreatDoor
