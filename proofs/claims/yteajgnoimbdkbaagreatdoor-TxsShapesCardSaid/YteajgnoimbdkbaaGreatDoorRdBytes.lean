/- pack.Reader: take, Bytes, Text. -/
import Derived.Test.YteajgnoimbdkbaaGreatDoorRdInt
import Derived.Lib.ConvBytes
namespace Go.Proofs.YteajgnoimbdkbaaGreatDoor
open Go.RowKit

/-- What a reader's method leaves that hands bytes on, in a row of their own. -/
def RdRow (B g : Nat) (r : Rd) (b : List UInt8) (w : World) (e : Ending) (w' : World) : Prop := ∃ A c, e = .returned (.slice A b.length c) ∧ ReaderAt B g r w' ∧ w.grownBy w' (some g) ∧ w'.ownsRow w.heap.size 5 1 (.slice A b.length c) b.length (cellsL b)
/-- take at enough bytes. -/
def takeF (r : Rd) (n : Nat) : List UInt8 × Rd := (r.b.take n, ⟨r.b.drop n, 0⟩)

theorem own_nil (w : World) (B : Nat) : w.ownsRow B 5 1 (.slice none 0 0) ([] : List UInt8).length (cellsL []) := World.ownsRow_nil _ _ _ _

theorem take_end {B g n : Nat} {r : Rd} {w w7 : World} {v ev A7 c7 T} (hB : B ≤ g) (hbk : w.heap[g]? = some (.cells #[v, ev] 147 (0, 0))) (hno : ∀ x ∈ [v, ev], ∀ y, x ≠ .int .u8 y) (hev : ev = .nilIface) (hn : (r.b.take n).length = n)
    (hgrow : w.grownBy w7 none) (hown : w7.ownsRow w.heap.size 5 1 (.slice A7 n c7) n (cellsL (r.b.take n))) (hT : Bts w T (r.b.drop n)) (hlow : Low B (r.b.drop n).length T) : RdRow B g ⟨r.b.drop n, 0⟩ (r.b.take n) w (.returned (.slice A7 n c7)) (w7.setCell ⟨g, 0, none⟩ T) := by
  subst hev
  have hlt : g < w.heap.size := (Array.getElem?_eq_some_iff.1 hbk).1
  refine ⟨A7, c7, by rw [hn], ?_, ?_, ?_⟩
  · exact reader_put (r := ⟨r.b.drop n, 0⟩) hB ((hgrow.block g hlt (by simp)).trans hbk) rfl (hT.keep (below_of_grown hgrow)) (IsErr.nil_ _) hno hlow
  · exact grown_trans (grown_below (below_of_grown hgrow) _) (grown_put _ _ _ _)
  · rw [hn]
    exact ownsRow_setCell_below hown hlt _

set_option maxRecDepth 100000 in
set_option maxHeartbeats 2000000 in
theorem take_any (B g : Nat) (r : Rd) (s : ByteArray) (n : Nat) (w : World) (h : ReaderAt B g r w) (hl : r.b.length ≤ 140737488355328) (h0 : r.err = 0) (hn : n ≤ r.b.length) :
    Calls Tryz.prog 82 #[.pointer (some ⟨g, 0, none⟩), .string s, .int .i64 (n : Int)] w (RdRow B g ⟨r.b.drop n, 0⟩ (r.b.take n) w) := by
  obtain ⟨i0, hi0, hz0, hz1, hz2⟩ := info_parts infoU8w
  have cL := live_yes B g r w h h0
  have hlt := h.lt
  obtain ⟨A, c, ev, hbk, c0, c1, fz, hb, hE, hlow⟩ := h.cells
  rw [h0] at hE
  obtain rfl := hE.zero
  have htl : (r.b.take n).length = n := by simp; omega
  have hbt : Row w (.slice A n c) 1 n (cellsL (r.b.take n)) := by rw [← cellsL_take]; exact Row.takeS hb hn
  have hone := cellsL_one (r.b.take n)
  have k0 : (0 : Int) ≤ (n : Int) := by omega
  have k1 : (n : Int) ≤ (r.b.length : Int) := by omega
  have k2 : ¬((r.b.length : Int) < (n : Int)) := by omega
  have hmx : 0 + n ≤ maxLen := by unfold maxLen; omega
  have hmy : (0 + n) * 1 ≤ 140737488355328 := by omega
  have hlc : r.b.length ≤ c ∧ (A = none → c = 0) := by
    obtain ⟨_, A', c', e, hc, _⟩ := hb
    obtain ⟨rfl, -, rfl⟩ := Value.slice.inj e
    exact hc
  have hcl : n ≤ c := by omega
  have k3 : (n : Int) ≤ (c : Int) := by omega
  have HBK := Lib.hid hbk
  have HT := Lib.hid htl
  have hno : ∀ x ∈ [Value.slice A r.b.length c, .nilIface], ∀ y, x ≠ Value.int .u8 y := by simp
  clear h0 hbk htl
  by_cases hn0 : n = 0
  · subst hn0
    have hbd0 : Bts w (.slice A r.b.length c) (r.b.drop 0) := hb
    rcases A with _ | ⟨bb, o, sp⟩
    · obtain rfl := hlc.2 rfl
      have hl0 : r.b = [] := List.eq_nil_of_length_eq_zero (by omega)
      have hbd : Bts w (.slice none 0 0) (r.b.drop 0) := by rw [hl0]; exact Bts.nil_ w
      have hlow2 : Low B (r.b.drop 0).length (.slice none 0 0) := by rw [hl0]; exact Low.zero _ _
      clear hl0
      go_enter Tryz.func82, Tryz.ntmps82
      go_wp2_with fail
      refine cL.mono ?_
      rintro e w1 ⟨rfl, rfl⟩
      go_wp2_with fail
      go_ret
      exact take_end hlt.1 HBK.out hno rfl HT.out (grown_refl _ _) (own_nil _ _) hbd hlow2
    · by_cases hc0 : c = 0
      · subst hc0
        have hlow2 : Low B (r.b.drop 0).length (.slice (some ⟨bb, o, sp⟩) 0 0) := by
          rw [List.eq_nil_of_length_eq_zero (l := r.b.drop 0) (by rw [List.length_drop]; omega)]
          exact Low.zero _ _
        have hbd : Bts w (.slice (some ⟨bb, o, sp⟩) 0 0) (r.b.drop 0) := by
          rw [List.eq_nil_of_length_eq_zero (l := r.b.drop 0) (by rw [List.length_drop]; omega)]
          exact Row.zeroS w _ _ _ (fun h => by cases h)
        go_enter Tryz.func82, Tryz.ntmps82
        go_wp2_with fail
        refine cL.mono ?_
        rintro e w1 ⟨rfl, rfl⟩
        go_wp2_with fail
        go_ret
        exact take_end hlt.1 HBK.out hno rfl HT.out (grown_refl _ _) (own_nil _ _) hbd hlow2
      · go_enter Tryz.func82, Tryz.ntmps82
        go_wp2_with fail
        refine cL.mono ?_
        rintro e w1 ⟨rfl, rfl⟩
        go_wp2_with fail
        go_ret
        exact take_end hlt.1 HBK.out hno rfl HT.out (grown_refl _ _) (own_nil _ _) hbd0 hlow
  · obtain ⟨bb, o, c', e1, _, _, _⟩ := hb.cell (by omega)
    obtain ⟨rfl, -, rfl⟩ := Value.slice.inj e1
    clear e1
    by_cases hcn : c = n
    · subst hcn
      have hlow2 : Low B (r.b.drop c).length (.slice (some ⟨bb, o, none⟩) 0 0) := by
        rw [List.eq_nil_of_length_eq_zero (l := r.b.drop c) (by rw [List.length_drop]; omega)]
        exact Low.zero _ _
      have hbd : Bts w (.slice (some ⟨bb, o, none⟩) 0 0) (r.b.drop c) := by
        rw [List.eq_nil_of_length_eq_zero (l := r.b.drop c) (by simp; omega)]
        exact Row.zeroS w _ _ _ (fun h => by cases h)
      go_enter Tryz.func82, Tryz.ntmps82
      go_wp2_with fail
      refine cL.mono ?_
      rintro e w1 ⟨rfl, rfl⟩
      go_wp2_with (at_builtin; refine wpList_append_row rfl _ _ 27 rfl w1.heap.size 5 i0 (.int .u8 0) 1 1 Tryz.underlying27 hi0 hz0 hz1 hz2 rfl (by decide) (.slice none 0 0) 0 [] rfl (World.ownsRow_nil _ _ _ _) (.slice (some ⟨bb, o, none⟩) c c) c (cellsL (r.b.take c)) rfl hbt hone hmx hmy (Nat.le_refl _) ?_; intro A7 c7 w7 hown7 hgrow7 hat7; simp only [Nat.zero_add, List.nil_append] at hown7; have hb7 := (hgrow7.block g hlt.2 (fun e => by cases e)).trans HBK.out; have d0 := Lib.cell_of_heap hb7 0; have f0 := Lib.frozen_of_heap hb7 0; clear hb7)
      go_ret
      exact take_end hlt.1 HBK.out hno rfl HT.out hgrow7 hown7 hbd hlow2
    · have hbd := hb.dropS hn
      have hlow2 : Low B (r.b.drop n).length (.slice (some ⟨bb, o + n, none⟩) (r.b.length - n) (c - n)) := by rw [List.length_drop]; exact hlow.drop hn _ _
      go_enter Tryz.func82, Tryz.ntmps82
      go_wp2_with fail
      refine cL.mono ?_
      rintro e w1 ⟨rfl, rfl⟩
      go_wp2_with (at_builtin; refine wpList_append_row rfl _ _ 27 rfl w1.heap.size 5 i0 (.int .u8 0) 1 1 Tryz.underlying27 hi0 hz0 hz1 hz2 rfl (by decide) (.slice none 0 0) 0 [] rfl (World.ownsRow_nil _ _ _ _) (.slice (some ⟨bb, o, none⟩) n c) n (cellsL (r.b.take n)) rfl hbt hone hmx hmy (Nat.le_refl _) ?_; intro A7 c7 w7 hown7 hgrow7 hat7; simp only [Nat.zero_add, List.nil_append] at hown7; have hb7 := (hgrow7.block g hlt.2 (fun e => by cases e)).trans HBK.out; have d0 := Lib.cell_of_heap hb7 0; have f0 := Lib.frozen_of_heap hb7 0; clear hb7)
      go_ret
      exact take_end hlt.1 HBK.out hno rfl HT.out hgrow7 hown7 hbd hlow2
end Go.Proofs.YteajgnoimbdkbaaGreatDoor
