/- pack.Reader: Bytes, Text. -/
import Derived.Test.YteajgnoimbdkbaaGreatDoorRdBytes
import Derived.Lib.BufferRead
import Derived.Deep.Onto
namespace Go.Proofs.YteajgnoimbdkbaaGreatDoor
open Go.RowKit

theorem IsErr.noByte {w : World} {v : Value} {n : Int} (h : IsErr w v n) : ∀ y, v ≠ .int .u8 y := by
  rcases h with ⟨_, rfl⟩ | ⟨_, d, hd⟩
  · simp
  · obtain ⟨t, y, rfl⟩ := hd.iface
    simp
/-- The reader's bytes are laid back as they were, its error stays. -/
theorem reader_old {B g : Nat} {r r2 : Rd} {w w2 : World} {v ev : Value} (hbk : w.heap[g]? = some (.cells #[v, ev] 147 (0, 0))) (hb : Bts w v r.b) (hE : IsErr w ev r.err) (hg : w.grownBy w2 (some g)) (h2 : ReaderAt B g r2 w2) (hlow : Low B r.b.length v) : ReaderAt B g ⟨r.b, r2.err⟩ (w2.setCell ⟨g, 0, none⟩ v) := by
  obtain ⟨A, c, rfl⟩ := hb.form
  obtain ⟨A2, c2, ev2, hbk2, _, _, _, _, hE2, _⟩ := h2.cells
  refine reader_put (r := ⟨r.b, r2.err⟩) h2.1 hbk2 rfl (hb.grow hg (hb.off_reader hE hbk)) hE2 ?_ hlow
  intro x hx
  simp only [List.mem_cons, List.not_mem_nil, or_false] at hx
  rcases hx with rfl | rfl
  · simp
  · exact hE2.noByte
theorem rdrow_nil {B g : Nat} {r : Rd} {w w' : World} (h : ReaderAt B g r w') (hg : w.grownBy w' (some g)) : RdRow B g r [] w (.returned (.slice none 0 0)) w' := ⟨none, 0, rfl, h, hg, own_nil _ _⟩

set_option maxRecDepth 100000 in
set_option maxHeartbeats 2000000 in
theorem rdBytes_any (B g : Nat) (r : Rd) (most : Nat) (w : World) (h : ReaderAt B g r w) (hl : r.b.length ≤ 140737488355328) (hm : most ≤ 140737488355328) :
    Calls Tryz.prog 49 #[.pointer (some ⟨g, 0, none⟩), .int .i64 (most : Int)] w (RdRow B g (rdBytes r most).2 (rdBytes r most).1 w) := by
  have hmx : ¬((most : Int) < 0) := by omega
  by_cases h0 : r.err = 0
  · have cL := live_yes B g r w h h0
    have cU := rdUint_any B g r 18446744073709551615 w h hl
    obtain ⟨A, c, ev, hbk, c0, c1, fz, hb, hE, hlow⟩ := h.cells
    have hu := rdUint_lt r 18446744073709551615
    have HBK := Lib.hid hbk
    clear hbk
    by_cases he : (rdUint r 18446744073709551615).2.err = 0
    · have cL2 := fun w2 h2 => live_yes B g (rdUint r 18446744073709551615).2 w2 h2 he
      by_cases hs : most < (rdUint r 18446744073709551615).1
      · have hr : rdBytes r most = ([], ⟨r.b, 2⟩) := by rw [rdBytes, if_neg (by simpa using h0), if_neg (by simpa using he), if_pos hs]
        have q1 : (most : Int) < ((rdUint r 18446744073709551615).1 : Int) := by omega
        rw [hr]
        generalize (rdUint r 18446744073709551615).1 = n at *
        generalize (rdUint r 18446744073709551615).2 = r2 at *
        have HE2 := Lib.hid he
        have H0 := Lib.hid h0
        clear hr he h0
        go_enter Tryz.func49, Tryz.ntmps49
        go_wp2_with fail
        refine cL.mono ?_
        rintro e w1 ⟨rfl, rfl⟩
        go_wp2_with fail
        refine cU.mono ?_
        rintro e w2 ⟨rfl, h2, hg2⟩
        obtain ⟨A2, c2, ev2, hbk2, d0, d1, fz2, hb2, hE2, _⟩ := h2.cells
        have HBK2 := Lib.hid hbk2
        clear hbk2
        go_wp2_with fail
        refine (cL2 _ h2).mono ?_
        rintro e w3 ⟨rfl, rfl⟩
        have cF := fail_yes B g r2 ⟨#[108, 101, 110, 103, 116, 104]⟩ 2 _ h2 HE2.out (by decide)
        go_wp2_with fail
        refine cF.mono ?_
        rintro e w4 ⟨rfl, h4, hg4⟩
        have hO := reader_old HBK.out hb hE (grown_trans hg2 hg4) h4 hlow
        obtain ⟨A4, c4, ev4, hbk4, k0, k1, fz4, hb4, hE4, _⟩ := h4.cells
        have HBK4 := Lib.hid hbk4
        clear hbk4
        go_wp2_with fail
        go_ret
        exact rdrow_nil hO (grown_trans (grown_trans hg2 hg4) (grown_put _ _ _ _))
      · have q1 : ¬((most : Int) < ((rdUint r 18446744073709551615).1 : Int)) := by omega
        by_cases hs2 : (rdUint r 18446744073709551615).2.b.length < (rdUint r 18446744073709551615).1
        · have hr : rdBytes r most = ([], ⟨r.b, 12⟩) := by rw [rdBytes, if_neg (by simpa using h0), if_neg (by simpa using he), if_neg hs, if_pos hs2]
          have q2 : ((rdUint r 18446744073709551615).2.b.length : Int) < ((rdUint r 18446744073709551615).1 : Int) := by omega
          have hl2 : (rdUint r 18446744073709551615).2.b.length ≤ 140737488355328 := by omega
          rw [hr]
          generalize (rdUint r 18446744073709551615).1 = n at *
          generalize (rdUint r 18446744073709551615).2 = r2 at *
          have HE2 := Lib.hid he
          have H0 := Lib.hid h0
          clear hr he h0
          go_enter Tryz.func49, Tryz.ntmps49
          go_wp2_with fail
          refine cL.mono ?_
          rintro e w1 ⟨rfl, rfl⟩
          go_wp2_with fail
          refine cU.mono ?_
          rintro e w2 ⟨rfl, h2, hg2⟩
          obtain ⟨A2, c2, ev2, hbk2, d0, d1, fz2, hb2, hE2, _⟩ := h2.cells
          have HBK2 := Lib.hid hbk2
          clear hbk2
          go_wp2_with fail
          refine (cL2 _ h2).mono ?_
          rintro e w3 ⟨rfl, rfl⟩
          have cF := fail_yes B g r2 ⟨#[98, 121, 116, 101, 115]⟩ 12 _ h2 HE2.out (by decide)
          go_wp2_with fail
          refine cF.mono ?_
          rintro e w4 ⟨rfl, h4, hg4⟩
          have hO := reader_old HBK.out hb hE (grown_trans hg2 hg4) h4 hlow
          obtain ⟨A4, c4, ev4, hbk4, k0, k1, fz4, hb4, hE4, _⟩ := h4.cells
          have HBK4 := Lib.hid hbk4
          clear hbk4
          go_wp2_with fail
          go_ret
          exact rdrow_nil hO (grown_trans (grown_trans hg2 hg4) (grown_put _ _ _ _))
        · have hr : rdBytes r most = ((rdUint r 18446744073709551615).2.b.take (rdUint r 18446744073709551615).1, ⟨(rdUint r 18446744073709551615).2.b.drop (rdUint r 18446744073709551615).1, 0⟩) := by rw [rdBytes, if_neg (by simpa using h0), if_neg (by simpa using he), if_neg hs, if_neg hs2]
          have q2 : ¬(((rdUint r 18446744073709551615).2.b.length : Int) < ((rdUint r 18446744073709551615).1 : Int)) := by omega
          have hl2 : (rdUint r 18446744073709551615).2.b.length ≤ 140737488355328 := by omega
          have q3 : ((rdUint r 18446744073709551615).1 : Int) ≤ 140737488355328 := by omega
          have cT := fun s w2 h2 => take_any B g (rdUint r 18446744073709551615).2 s (rdUint r 18446744073709551615).1 w2 h2 hl2 he (by omega)
          rw [hr]
          generalize (rdUint r 18446744073709551615).1 = n at *
          generalize (rdUint r 18446744073709551615).2 = r2 at *
          generalize r2.b.take n = tb at *
          have HE2 := Lib.hid he
          have H0 := Lib.hid h0
          clear hr he h0
          go_enter Tryz.func49, Tryz.ntmps49
          go_wp2_with fail
          refine cL.mono ?_
          rintro e w1 ⟨rfl, rfl⟩
          go_wp2_with fail
          refine cU.mono ?_
          rintro e w2 ⟨rfl, h2, hg2⟩
          obtain ⟨A2, c2, ev2, hbk2, d0, d1, fz2, hb2, hE2, _⟩ := h2.cells
          have HBK2 := Lib.hid hbk2
          clear hbk2
          go_wp2_with fail
          refine (cL2 _ h2).mono ?_
          rintro e w3 ⟨rfl, rfl⟩
          have cT2 := cT ⟨#[98, 121, 116, 101, 115]⟩ _ h2
          go_wp2_with fail
          refine cT2.mono ?_
          rintro e w4 ⟨A4, c4, rfl, h4, hg4, ho4⟩
          go_wp2_with fail
          go_ret
          exact ⟨A4, c4, rfl, h4, grown_trans hg2 hg4, World.ownsRow.mono ho4 hg2.size⟩
    · have hr : rdBytes r most = ([], (rdUint r 18446744073709551615).2) := by rw [rdBytes, if_neg (by simpa using h0), if_pos he]
      have cL2 := fun w2 h2 => live_no B g (rdUint r 18446744073709551615).2 w2 h2 he
      rw [hr]
      generalize (rdUint r 18446744073709551615).1 = n at *
      generalize (rdUint r 18446744073709551615).2 = r2 at *
      clear hr he h0
      go_enter Tryz.func49, Tryz.ntmps49
      go_wp2_with fail
      refine cL.mono ?_
      rintro e w1 ⟨rfl, rfl⟩
      go_wp2_with fail
      refine cU.mono ?_
      rintro e w2 ⟨rfl, h2, hg2⟩
      go_wp2_with fail
      refine (cL2 _ h2).mono ?_
      rintro e w3 ⟨rfl, rfl⟩
      go_wp2_with fail
      go_ret
      exact rdrow_nil h2 hg2
  · have cL := live_no B g r w h h0
    have hr : rdBytes r most = ([], r) := by rw [rdBytes, if_pos h0]
    rw [hr]
    clear hr
    go_enter Tryz.func49, Tryz.ntmps49
    go_wp2_with fail
    refine cL.mono ?_
    rintro e w1 ⟨rfl, rfl⟩
    go_wp2_with fail
    go_ret
    exact rdrow_nil h (grown_refl _ _)

/-- 'string(b)' of bytes, wherever they lie. -/
theorem conv_text {w : World} {A : Option Addr} {c : Nat} {b : List UInt8} (h : Bts w (.slice A b.length c) b) : (convert 27 9 (.slice A b.length c)).run Tryz.prog w = .ok (.string (strOf b)) w := by
  obtain ⟨_, A', c', e, hc, hcell⟩ := h
  obtain ⟨rfl, -, rfl⟩ := Value.slice.inj e
  rcases A with _ | a
  · obtain rfl := hc.2 rfl
    obtain rfl : b = [] := List.eq_nil_of_length_eq_zero (by omega)
    exact Lib.run_convert_nil_bytes w _ _ 5 0 Tryz.underlying27 Tryz.underlying5 Tryz.underlying9
  · refine run_convert_bytes_back w _ _ 5 a c b Tryz.underlying27 Tryz.underlying5 Tryz.underlying9 (fun j hj => ?_)
    obtain ⟨bb, o, e2, _, hce⟩ := hcell (by omega)
    obtain rfl := Option.some.inj e2
    have := hce j (.int .u8 (b[j].toNat : Int)) (by simp [cellsL, List.getElem?_eq_getElem hj])
    rw [show (⟨bb, o, none⟩ : Addr).add j = ⟨bb, o + j, none⟩ by unfold Addr.add; split <;> simp_all]
    exact this

set_option maxRecDepth 100000 in
set_option maxHeartbeats 2000000 in
theorem rdText_any (B g : Nat) (r : Rd) (most : Nat) (w : World) (h : ReaderAt B g r w) (hl : r.b.length ≤ 140737488355328) (hm : most ≤ 140737488355328) :
    Calls Tryz.prog 45 #[.pointer (some ⟨g, 0, none⟩), .int .i64 (most : Int)] w (RdPost B g (rdBytes r most).2 w (.string (strOf (rdBytes r most).1))) := by
  have cB := rdBytes_any B g r most w h hl hm
  generalize (rdBytes r most).1 = b at *
  generalize (rdBytes r most).2 = r2 at *
  go_enter Tryz.func45, Tryz.ntmps45
  go_wp2_with fail
  refine cB.mono ?_
  rintro e w1 ⟨A, c, rfl, h1, hg1, ho1⟩
  have hcv := conv_text (Row.of_own ho1)
  go_wp2_with fail
  go_ret
  exact ⟨rfl, h1, hg1⟩
end Go.Proofs.YteajgnoimbdkbaaGreatDoor
