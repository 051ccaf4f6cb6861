/- The end of a sum: the last bytes, and the sum. -/
import Derived.Test.YtbopkepjbifhhaaGreatDoorWhole
namespace Go.Proofs.YtbopkepjbifhhaaGreatDoor
open Go.RowKit

/-- So many blocks of 64 bytes, taken in one behind the other. -/
def mixesF (t : Nat → Int) (s : Nat → Int) : Nat → Nat → Int
  | 0 => s
  | j + 1 => mixF (fun i => t (64 * j + i)) (mixesF t s j)

/-- The bytes of eight words. -/
def outF (x : Nat → Int) (k : Nat) : Int := x (k / 4) / 2 ^ (24 - 8 * (k % 4)) % 256
theorem index8w (x : Nat → Int) (j : Nat) (hj : j < 8) (w : World) : (Instr.index 84 (.agg #[.int .u32 (x 0), .int .u32 (x 1), .int .u32 (x 2), .int .u32 (x 3), .int .u32 (x 4), .int .u32 (x 5), .int .u32 (x 6), .int .u32 (x 7)]) (.int .i64 (j : Int))).run Tryz.prog w = .ok (.int .u32 (x j)) w := by
  have h : j = 0 ∨ j = 1 ∨ j = 2 ∨ j = 3 ∨ j = 4 ∨ j = 5 ∨ j = 6 ∨ j = 7 := by omega
  rcases h with rfl | rfl | rfl | rfl | rfl | rfl | rfl | rfl <;> (show _ = _; kernel_rfl)

/-- The last bytes with their mark. -/
def lastF (b : Nat → Int) (n : Nat) (i : Nat) : Int := if i = n then 128 else if i < n then b i else 0
/-- .. and the length, in the last eight of so many. -/
def tailF (b : Nat → Int) (n : Nat) (many : Int) (size : Nat) (i : Nat) : Int := if size - 8 ≤ i ∧ i < size then IntKind.u64.wrap (many * 8) / 2 ^ (8 * (size - 1 - i)) % 256 else lastF b n i

theorem Words.grown {w w' : World} {g n : Nat} {f : Nat → Int} {r : Option Nat} (h : Words w g n f) (hg : g < w.heap.size) (hb : w.grownBy w' r) (hr : some g ≠ r) : Words w' g n f :=
  ⟨fun k hk => (World.cell?_of_block (a := ⟨g, k, none⟩) (hb.block g hg hr)).trans (h.1 k hk), fun o => (World.frozen?_of_block (a := ⟨g, o, none⟩) (hb.block g hg hr)).trans (h.2 o)⟩
theorem words_eight (w : World) (s : Nat → Int) (t : TypeId) : Words (w.alloc (.cells #[.int .u32 (s 0), .int .u32 (s 1), .int .u32 (s 2), .int .u32 (s 3), .int .u32 (s 4), .int .u32 (s 5), .int .u32 (s 6), .int .u32 (s 7)] t)) w.heap.size 8 s := by
  refine ⟨fun i hi => (World.cell?_alloc_at _ _ _ _ rfl).trans ?_, fun o => World.frozen?_alloc_new _ _ _ o⟩
  have h : i = 0 ∨ i = 1 ∨ i = 2 ∨ i = 3 ∨ i = 4 ∨ i = 5 ∨ i = 6 ∨ i = 7 := by omega
  rcases h with rfl | rfl | rfl | rfl | rfl | rfl | rfl | rfl <;> rfl

/-- The sum behind the last bytes. -/
def endF (b : Nat → Int) (n : Nat) (many : Int) (s : Nat → Int) : Nat → Int := if 55 < n then outF (mixesF (tailF b n many 128) s 2) else outF (mixesF (tailF b n many 64) s 1)

set_option maxRecDepth 100000 in
set_option maxHeartbeats 2000000 in
theorem shaEnd_any (s : Nat → Int) (v : Value) (n : Nat) (b : Nat → Int) (many : Int) (w : World) (hr : Row w v 1 n (octets n b)) (hn : n < 64)
    (hK : ∀ i, i < 64 → w.cell? ⟨1, i, none⟩ = some (.int .u32 (kF i))) (hKl : 1 < w.heap.size) :
    Calls Tryz.prog 48 #[.agg #[.int .u32 (s 0), .int .u32 (s 1), .int .u32 (s 2), .int .u32 (s 3), .int .u32 (s 4), .int .u32 (s 5), .int .u32 (s 6), .int .u32 (s 7)], v, .int .u64 many] w fun e w' => e = .returned (bytesV 32 (endF b n many s)) ∧ Below w.heap.size w w' := by
  obtain ⟨hol, A, c, rfl, hc, hcell⟩ := id hr
  have hrk : ∀ w', Below w.heap.size w w' → Row w' (.slice A n c) 1 n (octets n b) := fun w' h => hr.keep h
  clear hcell
  have hD : ∀ o1 o2, Marks (((w.alloc o1).alloc o2).alloc (.cells Tryz.zeroCells111 111)) (w.heap.size + 1 + 1) 128 (fun _ => 0) := fun o1 o2 => by
    have := marks_zeros ((w.alloc o1).alloc o2) 111 128
    rw [World.size_alloc, World.size_alloc] at this
    rw [show Tryz.zeroCells111 = Array.replicate 128 (.int .u8 0) by kernel_rfl]
    exact this
  have hb3 : ∀ o1 o2 o3, Below w.heap.size w (((w.alloc o1).alloc o2).alloc o3) := fun o1 o2 o3 => (((Below.refl _ _).alloc (Nat.le_refl _) _).alloc (by simp) _).alloc (by simp <;> omega) _
  by_cases h9 : 55 < n
  · have q9 : decide ((64 : Int) < (n : Int) + 9) = true := by simp; omega
    go_enter Tryz.func48, Tryz.ntmps48
    go_wp2_with (refine wpList_copy_marks rfl _ _ 53 53 rfl 5 Tryz.underlying53 (by kernel_rfl) (w.heap.size + 1 + 1) 128 n (fun _ => 0) b (.slice A n c) rfl rfl (hD _ _) (hrk _ (hb3 _ _ _)) (by omega) ?_; intro w1 hM1 hG1; have f1 := hM1.1 n (by omega); have f2 := hM1.2)
    have hM2 := hM1.set (i := n) (by omega) 128
    have hB2 : Below w.heap.size w w1 := (hb3 _ _ _).grown hG1 (hb3 _ _ _).size (fun k hk => by cases hk; omega)
    have hW1 := (((words_eight w s 84).keep (by simp) (below_alloc _ (.cells (Array.replicate 32 (.int .u8 0)) 51))).keep (by simp <;> omega) (below_alloc _ (.cells Tryz.zeroCells111 111))).grown (by simp <;> omega) hG1 (by simp <;> omega)
    have hR1 : Marks w1 (w.heap.size + 1) 32 (fun _ => 0) := by
      have h0 := marks_zeros (w.alloc (.cells #[.int .u32 (s 0), .int .u32 (s 1), .int .u32 (s 2), .int .u32 (s 3), .int .u32 (s 4), .int .u32 (s 5), .int .u32 (s 6), .int .u32 (s 7)] 84)) 51 32
      rw [World.size_alloc] at h0
      exact (h0.keep (by simp) (below_alloc _ (.cells Tryz.zeroCells111 111))).grown (by simp <;> omega) hG1 (by simp <;> omega)
    have hz1 := hB2.size
    have hz2 : w.heap.size + 1 + 1 < w1.heap.size := cell_lt f1
    clear hD hb3 hr f1 f2 hM1 hG1
    go_loopg [24] 8 (fun k v wq => ∃ (j : Nat) (f : Nat → Int), j + k = 8 ∧ v = .int .i64 j ∧ Marks wq (w.heap.size + 1 + 1) 128 f ∧ (∀ i, f i = if 128 - j ≤ i ∧ i < 128 then IntKind.u64.wrap (many * 8) / 2 ^ (8 * (127 - i)) % 256 else lastF b n i) ∧ Words wq w.heap.size 8 s ∧ Marks wq (w.heap.size + 1) 32 (fun _ => 0) ∧ Below w.heap.size w wq)
    case atStart => exact ⟨0, _, rfl, rfl, hM2, fun i => (show _ = _ from (if_neg (show ¬(128 - 0 ≤ i ∧ i < 128) by omega)).symm ▸ rfl), hW1.grown (by omega) (grown_set ⟨rfl, rfl, rfl, Nat.le_refl _, fun _ _ _ => rfl⟩ _ _) (by simp <;> omega), hR1.grown (by omega) (grown_set ⟨rfl, rfl, rfl, Nat.le_refl _, fun _ _ _ => rfl⟩ _ _) (by simp <;> omega), hB2.setCell (by simp <;> omega) _⟩
    case round =>
      clear hM2 hB2 hW1 hR1
      obtain ⟨j, f, hj, rfl, hM, hf, hW, hR, hB⟩ := hrel
      by_cases hlt : j < 8
      · have m0 := hM.1 (127 - j) (by omega)
        have mf := hM.2
        have e1 : ((127 : Int) - (j : Int)).toNat = 127 - j := by omega
        have e2 : (8 * (j : Int)) % 18446744073709551616 = 8 * (j : Int) := by omega
        have e3 : (8 * (j : Int)).toNat = 8 * j := by omega
        have e4 : min (8 * j) 64 = 8 * j := by omega
        go_wp2_with fail
        go_roundg (7 - j)
        case rel =>
          refine ⟨j + 1, _, by omega, rfl, hM.set (by omega) _, fun i => ?_, hW.grown (cell_lt (hW.1 0 (by omega))) (grown_set ⟨rfl, rfl, rfl, Nat.le_refl _, fun _ _ _ => rfl⟩ _ _) (by simp <;> omega), hR.grown (cell_lt (hR.1 0 (by omega))) (grown_set ⟨rfl, rfl, rfl, Nat.le_refl _, fun _ _ _ => rfl⟩ _ _) (by simp <;> omega), hB.setCell (by simp <;> omega) _⟩
          by_cases e : i = 127 - j
          · subst e
            simp only [if_true]
            rw [if_pos (by omega), show 127 - (127 - j) = j by omega]
          · simp only [if_neg e]
            rw [hf i]
            by_cases h : 128 - j ≤ i ∧ i < 128
            · rw [if_pos h, if_pos (by omega)]
            · rw [if_neg h, if_neg (by omega)]
        case measure => omega
      · obtain rfl : j = 8 := by omega
        have hft : ∀ i, f i = tailF b n many 128 i := fun i => hf i
        have HF := Lib.hid hft
        clear hf hft
        have hgN : w.heap.size < wr.heap.size := cell_lt (hW.1 0 (by omega))
        have htl : w.heap.size + 1 + 1 < wr.heap.size := cell_lt (hM.1 0 (by omega))
        go_wp2_with fail
        go_loopg [11] 2 (fun k v wq => ∃ (j : Nat) (a : Int), j + k = 2 ∧ a = 64 * (j : Int) ∧ v = .int .i64 a ∧ Marks wq (w.heap.size + 1 + 1) 128 f ∧ Words wq w.heap.size 8 (mixesF f s j) ∧ Marks wq (w.heap.size + 1) 32 (fun _ => 0) ∧ Below w.heap.size w wq)
        case atStart => exact ⟨0, 0, rfl, rfl, rfl, hM, hW, hR, hB⟩
        case round =>
          clear hM hW hB hgN htl hR
          obtain ⟨j, a, hj, ha, rfl, hM, hW, hR, hB⟩ := hrel
          have hgN : w.heap.size < wr.heap.size := cell_lt (hW.1 0 (by omega))
          have htl : w.heap.size + 1 + 1 < wr.heap.size := cell_lt (hM.1 0 (by omega))
          by_cases hlt : j < 2
          · by_cases h0 : j = 0
            · obtain rfl : j = 0 := h0
              obtain rfl : a = 0 := by omega
              clear ha
              have cM := mix_any w.heap.size (mixesF f s 0) (w.heap.size + 1 + 1) 0 64 128 (fun i => f (64 * 0 + i)) wr hW hgN (fun i hi => by have := hM.1 (64 * 0 + i) (by omega); simpa using this) (by omega) (by omega) htl (fun i hi => (hB.cell (p := ⟨1, i, none⟩) hKl).trans (hK i hi)) (Nat.lt_of_lt_of_le hKl hB.size)
              have hnx : mixF (fun i => f (64 * 0 + i)) (mixesF f s 0) = mixesF f s 1 := rfl
              rw [hnx] at cM
              go_wp2_with fail
              refine cM.mono ?_
              rintro e w2 ⟨rfl, hW2, hG2⟩
              go_wp2_with fail
              go_roundg 1
              case rel => exact ⟨1, 64, rfl, rfl, rfl, hM.grown htl hG2 (by simp <;> omega), hW2, hR.grown (cell_lt (hR.1 0 (by omega))) hG2 (by simp), hB.grown hG2 hB.size (fun k hk => by cases hk; omega)⟩
              case measure => omega
            · obtain rfl : j = 1 := by omega
              obtain rfl : a = 64 := by omega
              clear ha
              have cM := mix_any w.heap.size (mixesF f s 1) (w.heap.size + 1 + 1) 64 64 64 (fun i => f (64 * 1 + i)) wr hW hgN (fun i hi => by have := hM.1 (64 * 1 + i) (by omega); simpa using this) (by omega) (by omega) htl (fun i hi => (hB.cell (p := ⟨1, i, none⟩) hKl).trans (hK i hi)) (Nat.lt_of_lt_of_le hKl hB.size)
              have hnx : mixF (fun i => f (64 * 1 + i)) (mixesF f s 1) = mixesF f s 2 := rfl
              rw [hnx] at cM
              go_wp2_with fail
              refine cM.mono ?_
              rintro e w2 ⟨rfl, hW2, hG2⟩
              go_wp2_with fail
              go_roundg 0
              case rel => exact ⟨2, 128, rfl, rfl, rfl, hM.grown htl hG2 (by simp <;> omega), hW2, hR.grown (cell_lt (hR.1 0 (by omega))) hG2 (by simp), hB.grown hG2 hB.size (fun k hk => by cases hk; omega)⟩
              case measure => omega
          · obtain rfl : j = 2 := by omega
            obtain rfl : a = 128 := by omega
            clear ha
            obtain rfl : f = tailF b n many 128 := funext HF.out
            generalize hx : mixesF (tailF b n many 128) s 2 = x at *
            have HX := Lib.hid hx
            clear hx
            have w0 := hW.1 0 (by omega)
            have w1 := hW.1 1 (by omega)
            have w2 := hW.1 2 (by omega)
            have w3 := hW.1 3 (by omega)
            have w4 := hW.1 4 (by omega)
            have w5 := hW.1 5 (by omega)
            have w6 := hW.1 6 (by omega)
            have w7 := hW.1 7 (by omega)
            rename World => V
            have hO0 := marks_zeros V 51 32
            have hz := hB.size
            go_wp2_with fail
            clear w0 w1 w2 w3 w4 w5 w6 w7 hM
            go_loopg [51] 8 (fun k v wq => ∃ (t : Nat) (h : Nat → Int), t + k = 8 ∧ v = .int .i64 t ∧ Marks wq V.heap.size 32 h ∧ (∀ k, k < 4 * t → h k = outF x k) ∧ Below V.heap.size V wq)
            case atStart => exact ⟨0, _, rfl, rfl, hO0, fun k hk => absurd hk (by omega), below_alloc _ _⟩
            case round =>
              clear hO0
              obtain ⟨t, h, ht, rfl, hH, hh, hb⟩ := hrel
              by_cases hlt : t < 8
              · have hv := index8w x t hlt
                have hout : ∀ i, i < 4 → x t / 2 ^ (24 - 8 * i) % 256 = outF x (4 * t + i) := fun i hi => by
                  rw [outF, show (4 * t + i) / 4 = t by omega, show (4 * t + i) % 4 = i by omega]
                have HO := Lib.hid hout
                clear hout
                go_wp2_with fail
                go_loopg [55] 4 (fun k v wq => ∃ (i : Nat) (h : Nat → Int), i + k = 4 ∧ v = .int .i64 i ∧ Marks wq V.heap.size 32 h ∧ (∀ k, k < 4 * t + i → h k = outF x k) ∧ Below V.heap.size V wq)
                case atStart => exact ⟨0, h, rfl, rfl, hH, hh, hb⟩
                case round =>
                  clear hH hb hh
                  obtain ⟨i, h, hi, rfl, hH, hh, hb⟩ := hrel
                  by_cases hl4 : i < 4
                  · have m0 := hH.1 (4 * t + i) (by omega)
                    have mf := hH.2
                    have e1 : IntKind.u64.wrap (24 - 8 * (i : Int)) = ((24 - 8 * i : Nat) : Int) := by
                      have := IntKind.wrap_u64 (24 - 8 * (i : Int))
                      omega
                    have e2 : min (24 - 8 * i) 32 = 24 - 8 * i := by omega
                    have e3 : (0 : Int) ≤ ((24 - 8 * i : Nat) : Int) := by omega
                    have e4 : ((4 : Int) * (t : Int) + (i : Int)).toNat = 4 * t + i := by omega
                    go_wp2_with fail
                    go_roundg (3 - i)
                    case rel =>
                      refine ⟨i + 1, _, by omega, rfl, hH.set (by omega) _, fun k hk => ?_, hb.setCell (Nat.le_refl _) _⟩
                      by_cases e : k = 4 * t + i
                      · subst e
                        simp only [if_true]
                        exact HO.out i hl4
                      · simp only [if_neg e]
                        exact hh k (by omega)
                    case measure => omega
                  · obtain rfl : i = 4 := by omega
                    go_wp2_with fail
                    go_roundg (7 - t)
                    case rel => exact ⟨t + 1, h, by omega, rfl, hH, fun k hk => hh k (by omega), hb⟩
                    case measure => omega
              · obtain rfl : t = 8 := by omega
                have hR2 := hR.keep (cell_lt (hR.1 0 (by omega))) hb
                have hX : Marks wr V.heap.size 32 (outF x) := ⟨fun i hi => by rw [hH.1 i hi, hh i (by omega)], hH.2⟩
                clear hH hh
                go_wp2_with (first
                  | (refine wpList_load_marks rfl _ 51 5 rfl V.heap.size 32 (outF x) Tryz.underlying51 (by kernel_rfl) rfl hX ?_)
                  | (refine wpList_store_marks rfl _ _ 51 rfl (w.heap.size + 1) 32 (fun _ => 0) (outF x) (by kernel_rfl) rfl rfl hR2 ?_; intro w5 hR5 hG5))
                have hres := run_loadVar_marks (P := Tryz.prog) w5 51 5 (w.heap.size + 1) 32 (outF x) Tryz.underlying51 (by kernel_rfl) hR5
                refine bodyPost_ret (v := bytesV 32 (outF x)) (by simp [results, Tryz.results48, Act.put, asAddr, hres]) rfl ?_
                refine ⟨?_, (hB.trans (hb.mono hB.size)).grown hG5 (hB.trans (hb.mono hB.size)).size (fun k hk => by cases hk; omega)⟩
                rw [endF, if_pos h9, HX.out]
  · have q9 : decide ((64 : Int) < (n : Int) + 9) = false := by simp; omega
    go_enter Tryz.func48, Tryz.ntmps48
    go_wp2_with (refine wpList_copy_marks rfl _ _ 53 53 rfl 5 Tryz.underlying53 (by kernel_rfl) (w.heap.size + 1 + 1) 128 n (fun _ => 0) b (.slice A n c) rfl rfl (hD _ _) (hrk _ (hb3 _ _ _)) (by omega) ?_; intro w1 hM1 hG1; have f1 := hM1.1 n (by omega); have f2 := hM1.2)
    have hM2 := hM1.set (i := n) (by omega) 128
    have hB2 : Below w.heap.size w w1 := (hb3 _ _ _).grown hG1 (hb3 _ _ _).size (fun k hk => by cases hk; omega)
    have hW1 := (((words_eight w s 84).keep (by simp) (below_alloc _ (.cells (Array.replicate 32 (.int .u8 0)) 51))).keep (by simp <;> omega) (below_alloc _ (.cells Tryz.zeroCells111 111))).grown (by simp <;> omega) hG1 (by simp <;> omega)
    have hR1 : Marks w1 (w.heap.size + 1) 32 (fun _ => 0) := by
      have h0 := marks_zeros (w.alloc (.cells #[.int .u32 (s 0), .int .u32 (s 1), .int .u32 (s 2), .int .u32 (s 3), .int .u32 (s 4), .int .u32 (s 5), .int .u32 (s 6), .int .u32 (s 7)] 84)) 51 32
      rw [World.size_alloc] at h0
      exact (h0.keep (by simp) (below_alloc _ (.cells Tryz.zeroCells111 111))).grown (by simp <;> omega) hG1 (by simp <;> omega)
    have hz1 := hB2.size
    have hz2 : w.heap.size + 1 + 1 < w1.heap.size := cell_lt f1
    clear hD hb3 hr f1 f2 hM1 hG1
    go_loopg [24] 8 (fun k v wq => ∃ (j : Nat) (f : Nat → Int), j + k = 8 ∧ v = .int .i64 j ∧ Marks wq (w.heap.size + 1 + 1) 128 f ∧ (∀ i, f i = if 64 - j ≤ i ∧ i < 64 then IntKind.u64.wrap (many * 8) / 2 ^ (8 * (63 - i)) % 256 else lastF b n i) ∧ Words wq w.heap.size 8 s ∧ Marks wq (w.heap.size + 1) 32 (fun _ => 0) ∧ Below w.heap.size w wq)
    case atStart => exact ⟨0, _, rfl, rfl, hM2, fun i => (show _ = _ from (if_neg (show ¬(64 - 0 ≤ i ∧ i < 64) by omega)).symm ▸ rfl), hW1.grown (by omega) (grown_set ⟨rfl, rfl, rfl, Nat.le_refl _, fun _ _ _ => rfl⟩ _ _) (by simp <;> omega), hR1.grown (by omega) (grown_set ⟨rfl, rfl, rfl, Nat.le_refl _, fun _ _ _ => rfl⟩ _ _) (by simp <;> omega), hB2.setCell (by simp <;> omega) _⟩
    case round =>
      clear hM2 hB2 hW1 hR1
      obtain ⟨j, f, hj, rfl, hM, hf, hW, hR, hB⟩ := hrel
      by_cases hlt : j < 8
      · have m0 := hM.1 (63 - j) (by omega)
        have mf := hM.2
        have e1 : ((63 : Int) - (j : Int)).toNat = 63 - j := by omega
        have e2 : (8 * (j : Int)) % 18446744073709551616 = 8 * (j : Int) := by omega
        have e3 : (8 * (j : Int)).toNat = 8 * j := by omega
        have e4 : min (8 * j) 64 = 8 * j := by omega
        go_wp2_with fail
        go_roundg (7 - j)
        case rel =>
          refine ⟨j + 1, _, by omega, rfl, hM.set (by omega) _, fun i => ?_, hW.grown (cell_lt (hW.1 0 (by omega))) (grown_set ⟨rfl, rfl, rfl, Nat.le_refl _, fun _ _ _ => rfl⟩ _ _) (by simp <;> omega), hR.grown (cell_lt (hR.1 0 (by omega))) (grown_set ⟨rfl, rfl, rfl, Nat.le_refl _, fun _ _ _ => rfl⟩ _ _) (by simp <;> omega), hB.setCell (by simp <;> omega) _⟩
          by_cases e : i = 63 - j
          · subst e
            simp only [if_true]
            rw [if_pos (by omega), show 63 - (63 - j) = j by omega]
          · simp only [if_neg e]
            rw [hf i]
            by_cases h : 64 - j ≤ i ∧ i < 64
            · rw [if_pos h, if_pos (by omega)]
            · rw [if_neg h, if_neg (by omega)]
        case measure => omega
      · obtain rfl : j = 8 := by omega
        have hft : ∀ i, f i = tailF b n many 64 i := fun i => hf i
        have HF := Lib.hid hft
        clear hf hft
        have hgN : w.heap.size < wr.heap.size := cell_lt (hW.1 0 (by omega))
        have htl : w.heap.size + 1 + 1 < wr.heap.size := cell_lt (hM.1 0 (by omega))
        go_wp2_with fail
        go_loopg [11] 1 (fun k v wq => ∃ (j : Nat) (a : Int), j + k = 1 ∧ a = 64 * (j : Int) ∧ v = .int .i64 a ∧ Marks wq (w.heap.size + 1 + 1) 128 f ∧ Words wq w.heap.size 8 (mixesF f s j) ∧ Marks wq (w.heap.size + 1) 32 (fun _ => 0) ∧ Below w.heap.size w wq)
        case atStart => exact ⟨0, 0, rfl, rfl, rfl, hM, hW, hR, hB⟩
        case round =>
          clear hM hW hB hgN htl hR
          obtain ⟨j, a, hj, ha, rfl, hM, hW, hR, hB⟩ := hrel
          have hgN : w.heap.size < wr.heap.size := cell_lt (hW.1 0 (by omega))
          have htl : w.heap.size + 1 + 1 < wr.heap.size := cell_lt (hM.1 0 (by omega))
          by_cases hlt : j < 1
          · obtain rfl : j = 0 := by omega
            obtain rfl : a = 0 := by omega
            clear ha
            have cM := mix_any w.heap.size (mixesF f s 0) (w.heap.size + 1 + 1) 0 64 128 (fun i => f (64 * 0 + i)) wr hW hgN (fun i hi => by have := hM.1 i (by omega); simpa using this) (by omega) (by omega) htl (fun i hi => (hB.cell (p := ⟨1, i, none⟩) hKl).trans (hK i hi)) (Nat.lt_of_lt_of_le hKl hB.size)
            have hnx : mixF (fun i => f (64 * 0 + i)) (mixesF f s 0) = mixesF f s 1 := rfl
            rw [hnx] at cM
            go_wp2_with fail
            refine cM.mono ?_
            rintro e w2 ⟨rfl, hW2, hG2⟩
            go_wp2_with fail
            go_roundg 0
            case rel => exact ⟨1, 64, rfl, rfl, rfl, hM.grown htl hG2 (by simp <;> omega), hW2, hR.grown (cell_lt (hR.1 0 (by omega))) hG2 (by simp), hB.grown hG2 hB.size (fun k hk => by cases hk; omega)⟩
            case measure => omega
          · obtain rfl : j = 1 := by omega
            obtain rfl : a = 64 := by omega
            clear ha
            obtain rfl : f = tailF b n many 64 := funext HF.out
            generalize hx : mixesF (tailF b n many 64) s 1 = x at *
            have HX := Lib.hid hx
            clear hx
            have w0 := hW.1 0 (by omega)
            have w1 := hW.1 1 (by omega)
            have w2 := hW.1 2 (by omega)
            have w3 := hW.1 3 (by omega)
            have w4 := hW.1 4 (by omega)
            have w5 := hW.1 5 (by omega)
            have w6 := hW.1 6 (by omega)
            have w7 := hW.1 7 (by omega)
            rename World => V
            have hO0 := marks_zeros V 51 32
            have hz := hB.size
            go_wp2_with fail
            clear w0 w1 w2 w3 w4 w5 w6 w7 hM
            go_loopg [51] 8 (fun k v wq => ∃ (t : Nat) (h : Nat → Int), t + k = 8 ∧ v = .int .i64 t ∧ Marks wq V.heap.size 32 h ∧ (∀ k, k < 4 * t → h k = outF x k) ∧ Below V.heap.size V wq)
            case atStart => exact ⟨0, _, rfl, rfl, hO0, fun k hk => absurd hk (by omega), below_alloc _ _⟩
            case round =>
              clear hO0
              obtain ⟨t, h, ht, rfl, hH, hh, hb⟩ := hrel
              by_cases hlt : t < 8
              · have hv := index8w x t hlt
                have hout : ∀ i, i < 4 → x t / 2 ^ (24 - 8 * i) % 256 = outF x (4 * t + i) := fun i hi => by
                  rw [outF, show (4 * t + i) / 4 = t by omega, show (4 * t + i) % 4 = i by omega]
                have HO := Lib.hid hout
                clear hout
                go_wp2_with fail
                go_loopg [55] 4 (fun k v wq => ∃ (i : Nat) (h : Nat → Int), i + k = 4 ∧ v = .int .i64 i ∧ Marks wq V.heap.size 32 h ∧ (∀ k, k < 4 * t + i → h k = outF x k) ∧ Below V.heap.size V wq)
                case atStart => exact ⟨0, h, rfl, rfl, hH, hh, hb⟩
                case round =>
                  clear hH hb hh
                  obtain ⟨i, h, hi, rfl, hH, hh, hb⟩ := hrel
                  by_cases hl4 : i < 4
                  · have m0 := hH.1 (4 * t + i) (by omega)
                    have mf := hH.2
                    have e1 : IntKind.u64.wrap (24 - 8 * (i : Int)) = ((24 - 8 * i : Nat) : Int) := by
                      have := IntKind.wrap_u64 (24 - 8 * (i : Int))
                      omega
                    have e2 : min (24 - 8 * i) 32 = 24 - 8 * i := by omega
                    have e3 : (0 : Int) ≤ ((24 - 8 * i : Nat) : Int) := by omega
                    have e4 : ((4 : Int) * (t : Int) + (i : Int)).toNat = 4 * t + i := by omega
                    go_wp2_with fail
                    go_roundg (3 - i)
                    case rel =>
                      refine ⟨i + 1, _, by omega, rfl, hH.set (by omega) _, fun k hk => ?_, hb.setCell (Nat.le_refl _) _⟩
                      by_cases e : k = 4 * t + i
                      · subst e
                        simp only [if_true]
                        exact HO.out i hl4
                      · simp only [if_neg e]
                        exact hh k (by omega)
                    case measure => omega
                  · obtain rfl : i = 4 := by omega
                    go_wp2_with fail
                    go_roundg (7 - t)
                    case rel => exact ⟨t + 1, h, by omega, rfl, hH, fun k hk => hh k (by omega), hb⟩
                    case measure => omega
              · obtain rfl : t = 8 := by omega
                have hR2 := hR.keep (cell_lt (hR.1 0 (by omega))) hb
                have hX : Marks wr V.heap.size 32 (outF x) := ⟨fun i hi => by rw [hH.1 i hi, hh i (by omega)], hH.2⟩
                clear hH hh
                go_wp2_with (first
                  | (refine wpList_load_marks rfl _ 51 5 rfl V.heap.size 32 (outF x) Tryz.underlying51 (by kernel_rfl) rfl hX ?_)
                  | (refine wpList_store_marks rfl _ _ 51 rfl (w.heap.size + 1) 32 (fun _ => 0) (outF x) (by kernel_rfl) rfl rfl hR2 ?_; intro w5 hR5 hG5))
                have hres := run_loadVar_marks (P := Tryz.prog) w5 51 5 (w.heap.size + 1) 32 (outF x) Tryz.underlying51 (by kernel_rfl) hR5
                refine bodyPost_ret (v := bytesV 32 (outF x)) (by simp [results, Tryz.results48, Act.put, asAddr, hres]) rfl ?_
                refine ⟨?_, (hB.trans (hb.mono hB.size)).grown hG5 (hB.trans (hb.mono hB.size)).size (fun k hk => by cases hk; omega)⟩
                rw [endF, if_neg h9, HX.out]
end Go.Proofs.YtbopkepjbifhhaaGreatDoor
