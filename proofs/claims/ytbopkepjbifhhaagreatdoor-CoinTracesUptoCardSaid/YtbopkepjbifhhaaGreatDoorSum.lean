/- The sum of bytes. -/
import Derived.Test.YtbopkepjbifhhaaGreatDoorShaEnd
namespace Go.Proofs.YtbopkepjbifhhaaGreatDoor
open Go.RowKit

/-- The state at the begin. -/
def startF (i : Nat) : Int := [1779033703, 3144134277, 1013904242, 2773480762, 1359893119, 2600822924, 528734635, 1541459225].getD i 0
def stateV (s : Nat → Int) : Value := .agg #[.int .u32 (s 0), .int .u32 (s 1), .int .u32 (s 2), .int .u32 (s 3), .int .u32 (s 4), .int .u32 (s 5), .int .u32 (s 6), .int .u32 (s 7)]

theorem start_any (w : World) : Calls Tryz.prog 46 #[] w fun e w' => e = .returned (stateV startF) ∧ Below w.heap.size w w' := by
  go_enter Tryz.func46, Tryz.ntmps46
  go_wp2
  refine bodyPost_ret (v := stateV startF) (by simp [results, Tryz.results46, go_sem, stateV, startF]) rfl ?_
  refine ⟨rfl, ?_⟩
  repeat (first | exact Below.refl _ _ | refine Below.setCell ?_ (by simp <;> omega) _ | refine Below.alloc ?_ (by simp <;> omega) _)
/-- The sum of n bytes. -/
def shaF (b : Nat → Int) (n : Nat) : Nat → Int := endF (fun i => b (64 * (n / 64) + i)) (n % 64) (n : Int) (mixesF b startF (n / 64))

set_option maxRecDepth 100000 in
set_option maxHeartbeats 2000000 in
theorem sum_any (v : Value) (n : Nat) (b : Nat → Int) (w : World) (hr : Row w v 1 n (octets n b)) (hn : n ≤ 9223372036854775807)
    (hK : ∀ i, i < 64 → w.cell? ⟨1, i, none⟩ = some (.int .u32 (kF i))) (hKl : 1 < w.heap.size) :
    Calls Tryz.prog 26 #[v] w fun e w' => e = .returned (bytesV 32 (shaF b n)) ∧ Below w.heap.size w w' := by
  have hR0 := marks_zeros w 51 32
  have hb0 := below_alloc w (.cells (Array.replicate 32 (.int .u8 0)) 51)
  have hrk : ∀ w', Below w.heap.size w w' → Row w' v 1 n (octets n b) := fun w' h => hr.keep h
  obtain ⟨A, c, rfl, _⟩ := hr.2
  clear hr
  go_enter Tryz.func26, Tryz.ntmps26
  go_wp2_with fail
  refine (start_any _).mono ?_
  rintro e w1 ⟨rfl, hb1⟩
  have hR1 := hR0.keep (by simp) hb1
  have hB1 := hb0.trans (hb1.mono hb0.size)
  unfold stateV
  go_wp2_with fail
  have hW1 := words_eight w1 startF 84
  have hb2 := below_alloc w1 (.cells #[.int .u32 (startF 0), .int .u32 (startF 1), .int .u32 (startF 2), .int .u32 (startF 3), .int .u32 (startF 4), .int .u32 (startF 5), .int .u32 (startF 6), .int .u32 (startF 7)] 84)
  have hB2 := hB1.trans (hb2.mono hB1.size)
  have hR2 := hR1.keep (cell_lt (hR1.1 0 (by omega))) hb2
  have hzz : w.heap.size < w1.heap.size := cell_lt (hR1.1 0 (by omega))
  have hr0 := hrk w (Below.refl _ _)
  clear hR0 hb0 hb1 hR1 hb2 hrk
  go_loopg [0] n (fun k v wq => ∃ (j m : Nat) (A' : Option Addr) (c' : Nat), m = k ∧ m + 64 * j = n ∧ v = .slice A' m c' ∧ Row w (.slice A' m c') 1 m (octets m (fun i => b (64 * j + i))) ∧ Words wq w1.heap.size 8 (mixesF b startF j) ∧ Marks wq w.heap.size 32 (fun _ => 0) ∧ Below w.heap.size w wq)
  case atStart => exact ⟨0, n, A, c, rfl, rfl, rfl, by simpa using hr0, hW1, hR2, hB2⟩
  case round =>
    clear hW1 hR2 hB2 hB1
    obtain ⟨j, m, A', c', hk, hj, rfl, hr, hW, hR, hB⟩ := hrel
    subst hk
    have hgN : w1.heap.size < wr.heap.size := cell_lt (hW.1 0 (by omega))
    have hz1 : w.heap.size < wr.heap.size := cell_lt (hR.1 0 (by omega))
    obtain ⟨_, A0, c0, hv, ⟨hc1, hc2⟩, hcell⟩ := id hr
    obtain ⟨rfl, rfl⟩ : A' = A0 ∧ c' = c0 := by simpa using hv
    clear hv
    by_cases h64 : 64 ≤ m
    · obtain ⟨r, rfl⟩ : ∃ r, m = r + 64 := ⟨m - 64, by omega⟩
      obtain ⟨g, o, rfl, hg, hce⟩ := hcell (by omega)
      have hce2 : ∀ i, i < r + 64 → w.cell? ⟨g, o + i, none⟩ = some (.int .u8 (b (64 * j + i))) := fun i hi => hce i _ (octets_get hi)
      have cM := mix_any w1.heap.size (mixesF b startF j) g o 64 c' (fun i => b (64 * j + i)) wr hW hgN (fun i hi => (hB.cell (p := ⟨g, o + i, none⟩) hg).trans (hce2 i (by omega))) (by omega) (by omega) (Nat.lt_of_lt_of_le hg hB.size) (fun i hi => (hB.cell (p := ⟨1, i, none⟩) hKl).trans (hK i hi)) (Nat.lt_of_lt_of_le hKl hB.size)
      have hnx : mixF (fun i => b (64 * j + i)) (mixesF b startF j) = mixesF b startF (j + 1) := rfl
      rw [hnx] at cM
      clear hce
      by_cases hcc : c' = 64
      · obtain rfl : r = 0 := by omega
        subst hcc
        go_wp2_with fail
        refine cM.mono ?_
        rintro e w2 ⟨rfl, hW2, hG2⟩
        go_wp2_with fail
        go_roundg 0
        case rel =>
          refine ⟨j + 1, 0, some ⟨g, o, none⟩, 0, rfl, by omega, rfl, ⟨by simp [octets_length], some ⟨g, o, none⟩, 0, rfl, ⟨by omega, fun h => by cases h⟩, fun h => absurd h (by omega)⟩, hW2, hR.grown hz1 hG2 (by simp <;> omega), hB.grown hG2 hB.size (fun k hk => by cases hk; omega)⟩
        case measure => omega
      · have hc3 : ¬(c' : Int) = 64 := by omega
        go_wp2_with fail
        refine cM.mono ?_
        rintro e w2 ⟨rfl, hW2, hG2⟩
        go_wp2_with fail
        go_roundg r
        case rel =>
          refine ⟨j + 1, r, some ⟨g, o + 64, none⟩, c' - 64, rfl, by omega, ?_, ⟨by simp [octets_length], some ⟨g, o + 64, none⟩, c' - 64, rfl, ⟨by omega, fun h => by cases h⟩, fun _ => ⟨g, o + 64, rfl, hg, fun i u hu => ?_⟩⟩, hW2, hR.grown hz1 hG2 (by simp <;> omega), hB.grown hG2 hB.size (fun k hk => by cases hk; omega)⟩
          · rfl
          · have hi : i < r := by have := (List.getElem?_eq_some_iff.1 hu).1; rwa [octets_length] at this
            rw [octets_get hi] at hu
            cases hu
            rw [show o + 64 + i = o + (64 + i) by omega, hce2 (64 + i) (by omega), show 64 * (j + 1) + i = 64 * j + (64 + i) by omega]
        case measure => omega
    · have cE := shaEnd_any (mixesF b startF j) (.slice A' m c') m (fun i => b (64 * j + i)) (n : Int) wr (hr.keep hB) (by omega) (fun i hi => (hB.cell (p := ⟨1, i, none⟩) hKl).trans (hK i hi)) (Nat.lt_of_lt_of_le hKl hB.size)
      have hj2 : n / 64 = j := by omega
      have hm2 : n % 64 = m := by omega
      have HF : Hid (endF (fun i => b (64 * j + i)) m (n : Int) (mixesF b startF j) = shaF b n) := Lib.hid (by rw [shaF, hj2, hm2])
      have w0 := hW.1 0 (by omega)
      have w1 := hW.1 1 (by omega)
      have w2 := hW.1 2 (by omega)
      have w3 := hW.1 3 (by omega)
      have w4 := hW.1 4 (by omega)
      have w5 := hW.1 5 (by omega)
      have w6 := hW.1 6 (by omega)
      have w7 := hW.1 7 (by omega)
      clear hcell
      go_wp2_with fail
      refine cE.mono ?_
      rintro e w8 ⟨rfl, hb8⟩
      have hR8 := hR.keep hz1 hb8
      have hB8 := hB.trans (hb8.mono hB.size)
      go_wp2_with (refine wpList_store_marks rfl _ _ 51 rfl w.heap.size 32 (fun _ => 0) _ (by kernel_rfl) rfl rfl hR8 ?_; intro w9 hR9 hG9)
      have hres := run_loadVar_marks (P := Tryz.prog) w9 51 5 w.heap.size 32 _ Tryz.underlying51 (by kernel_rfl) hR9
      refine bodyPost_ret (v := bytesV 32 (endF (fun i => b (64 * j + i)) m (n : Int) (mixesF b startF j))) (by simp [results, Tryz.results26, Act.put, asAddr, hres]) rfl ?_
      exact ⟨by rw [HF.out], hB8.grown hG9 hB8.size (fun k hk => by cases hk; omega)⟩
end Go.Proofs.YtbopkepjbifhhaaGreatDoor
