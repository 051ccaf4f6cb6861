/- txs.Msg.check: may a message be? -/
import Derived.Test.YteajgnoimbdkbaaGreatDoorShape
import Derived.Test.YteajgnoimbdkbaaGreatDoorReader
namespace Go.Proofs.YteajgnoimbdkbaaGreatDoor
open Go.RowKit

/-- txs.fault: a new error of a place and a number. -/
theorem txFault_any (s : ByteArray) (n : Int) (w : World) :
    Calls Tryz.prog 30 #[.string s, .int .i64 n] w fun e w' => e = .returned (.iface 118 (.pointer (some ⟨w.heap.size, 0, none⟩))) ∧
      w' = w.alloc (.cells #[.string s, .iface 79 (.int .i64 n)] 120) := by
  go_enter Tryz.func30, Tryz.ntmps30
  go_wp2
  go_ret
  exact ⟨rfl, rfl⟩

def longB (n : Nat) (l : List (List UInt8)) : Bool := l.any fun t => decide (n < t.length)
theorem longB_yes {n j : Nat} {l : List (List UInt8)} {t : List UInt8} (h : l[j]? = some t) (hb : n < t.length) : longB n l = true := List.any_eq_true.2 ⟨t, List.mem_of_getElem? h, by simpa using hb⟩
theorem longB_no {n : Nat} {l : List (List UInt8)} (h : ∀ (j : Nat) (t : List UInt8), l[j]? = some t → t.length ≤ n) : longB n l = false := by
  rw [longB, List.any_eq_false]
  intro t ht
  obtain ⟨j, hj⟩ := List.getElem?_of_mem ht
  have := h j t hj
  simp; omega
def fitB (m : MsgD) : Bool := decide (1 ≤ m.kind) && decide (m.kind ≤ 18) && decide (m.texts.length = (shapeF m.kind).1) && decide (m.ints.length = (shapeF m.kind).2.1) && decide (m.data.length = (shapeF m.kind).2.2)
/-- The number of a message's error: 0, 1 or 2. -/
def msgN (m : MsgD) : Int := if fitB m then (if longB 256 m.texts || longB 16384 m.data then 2 else 0) else 1
def msgVal (p : MsgV) : Value := .agg #[.int .i64 p.kind, p.texts, p.ints, p.data]

set_option maxRecDepth 100000 in
set_option maxHeartbeats 4000000 in
theorem msgCheck_any (p : MsgV) (m : MsgD) (w : World) (h : MsgAt w p m) (hl1 : m.texts.length ≤ 140737488355328) (hl3 : m.data.length ≤ 140737488355328)
    (hs1 : ∀ t ∈ m.texts, t.length ≤ 140737488355328) (hs3 : ∀ t ∈ m.data, t.length ≤ 140737488355328) :
    Calls Tryz.prog 32 #[msgVal p] w (ErrPost (msgN m) w) := by
  obtain ⟨hk, h1, h2, h3⟩ := h
  obtain ⟨A1, c1, e1⟩ := h1.form
  obtain ⟨A2, c2, e2⟩ := h2.form
  obtain ⟨vs, h3, hone, hv3⟩ := h3
  obtain ⟨A3, c3, e3⟩ := h3.form
  rw [List.length_map] at e1
  rw [e1] at h1
  rw [e3] at h3
  unfold msgVal
  rw [e1, e2, e3, hk]
  have cS := fun W => shape_any m.kind W
  have hb1 := below_alloc w (.cells #[.int .i64 m.kind, .slice A1 m.texts.length c1, .slice A2 m.ints.length c2, .slice A3 m.data.length c3] 35)
  have h1' := h1.keep hb1
  have h3' := h3.keep hb1
  clear hk e1 e2 e3 h2
  by_cases hf : fitB m = true
  · have hr : msgN m = if longB 256 m.texts || longB 16384 m.data then 2 else 0 := by simp [msgN, hf]
    have HR := Lib.hid hr
    have hcase : 1 ≤ m.kind ∧ m.kind ≤ 18 ∧ m.texts.length = (shapeF m.kind).1 ∧ m.ints.length = (shapeF m.kind).2.1 ∧ m.data.length = (shapeF m.kind).2.2 := by
      simp only [fitB, Bool.and_eq_true, decide_eq_true_eq] at hf
      omega
    clear hf hr
    obtain ⟨ha, hb, t1, t2, t3⟩ := hcase
    generalize shapeF m.kind = S at *
    obtain ⟨a, b, c⟩ := S
    simp only at *
    subst t1 t2 t3
    generalize m.kind = k at *
    go_enter Tryz.func32, Tryz.ntmps32
    go_wp2_with fail
    refine (cS _).mono ?_
    rintro e w2 ⟨rfl, hb2⟩
    have q1 := hb1.trans (hb2.mono hb1.size)
    have k0 := (hb2.cell (p := ⟨w.heap.size, 0, none⟩) (by simp)).trans (World.cell?_alloc_at _ _ _ _ rfl)
    have k1 := (hb2.cell (p := ⟨w.heap.size, 1, none⟩) (by simp)).trans (World.cell?_alloc_at _ _ _ _ rfl)
    have k2 := (hb2.cell (p := ⟨w.heap.size, 2, none⟩) (by simp)).trans (World.cell?_alloc_at _ _ _ _ rfl)
    have k3 := (hb2.cell (p := ⟨w.heap.size, 3, none⟩) (by simp)).trans (World.cell?_alloc_at _ _ _ _ rfl)
    have h1 := h1'.keep hb2
    have h3 := h3'.keep hb2
    have hz : w.heap.size < w2.heap.size := by have := hb2.size; simp at this; omega
    clear hb1 hb2 h1' h3' cS
    go_wp2_with fail
    go_loopg [50] m.texts.length (fun k s50 wq => ∃ i : Nat, k + i = m.texts.length ∧ s50 = .int .i64 (i : Int) ∧ Hid (∀ (j : Nat) (t : List UInt8), j < i → m.texts[j]? = some t → t.length ≤ 256) ∧ w2 = wq)
    case atStart => exact ⟨0, by omega, rfl, Lib.hid (fun j t h => absurd h (Nat.not_lt_zero _)), rfl⟩
    case round =>
      obtain ⟨i, hi, rfl, HT, rfl⟩ := hrel
      by_cases hlt : i < m.texts.length
      · obtain ⟨bb, o, c', e1, _, _, hcell⟩ := h1.row.cell (by rw [List.length_map]; omega)
        obtain ⟨rfl, -, rfl⟩ := Value.slice.inj e1
        have hx : m.texts[i]? = some m.texts[i] := List.getElem?_eq_getElem hlt
        have c0 := hcell i (.string (strOf m.texts[i])) (by simp [hx])
        have hsz : (strOf m.texts[i]).size = m.texts[i].length := strOf_size _
        have hsl := hs1 m.texts[i] (List.mem_of_getElem? hx)
        have HX := Lib.hid hx
        have HS := Lib.hid hsz
        clear hx hcell hsz e1
        generalize strOf m.texts[i] = s at *
        generalize m.texts[i] = t at *
        have i0 : (0 : Int) ≤ (i : Int) := by omega
        have i1 : (i : Int) < (m.texts.length : Int) := by omega
        by_cases hlong : 256 < t.length
        · have q : (256 : Int) < (s.size : Int) := by have := HS.out; omega
          have HR2 : Hid (msgN m = 2) := Lib.hid (by rw [HR.out, longB_yes HX.out hlong]; rfl)
          clear HT HX HS hlong
          go_wp2_with fail
          refine (txFault_any _ _ _).mono ?_
          rintro e w3 ⟨rfl, rfl⟩
          go_wp2_with fail
          go_ret
          exact ⟨_, rfl, by rw [HR2.out]; exact IsErr.fault (by decide) rfl rfl, q1.alloc q1.size _⟩
        · have q : ¬((256 : Int) < (s.size : Int)) := by have := HS.out; omega
          have HT2 : Hid (∀ (j : Nat) (t : List UInt8), j < i + 1 → m.texts[j]? = some t → t.length ≤ 256) := Lib.hid (fun j t' hj ht => by
            rcases Nat.lt_succ_iff_lt_or_eq.1 hj with h | rfl
            · exact HT.out j t' h ht
            · obtain rfl := Option.some.inj (HX.out.symm.trans ht)
              omega)
          clear HT HX HS hlong
          go_wp2_with fail
          go_roundg (gk - 1)
          case measure => omega
          case rel => exact ⟨i + 1, by omega, by go_num, HT2, rfl⟩
      · have HL1 : Hid (longB 256 m.texts = false) := Lib.hid (longB_no fun j t ht => HT.out j t (by have := (List.getElem?_eq_some_iff.1 ht).1; omega) ht)
        go_wp2_with fail
        clear HT hi hlt
        go_loopg [62] m.data.length (fun k s62 wq => ∃ i : Nat, k + i = m.data.length ∧ s62 = .int .i64 (i : Int) ∧ Hid (∀ (j : Nat) (t : List UInt8), j < i → m.data[j]? = some t → t.length ≤ 16384) ∧ w2 = wq)
        case atStart => exact ⟨0, by omega, rfl, Lib.hid (fun j t h => absurd h (Nat.not_lt_zero _)), rfl⟩
        case round =>
          obtain ⟨i, hi, rfl, HT, rfl⟩ := hrel
          by_cases hlt : i < m.data.length
          · obtain ⟨bb, o, c', e1, _, _, hcell⟩ := h3.cell (by omega)
            obtain ⟨rfl, -, rfl⟩ := Value.slice.inj e1
            have hx : m.data[i]? = some m.data[i] := List.getElem?_eq_getElem hlt
            have hvl : i < vs.length := by have := h3.1; omega
            have hu : vs[i]? = some vs[i] := List.getElem?_eq_getElem hvl
            have c0 := hcell i vs[i] hu
            obtain ⟨Ad, cd, ed⟩ := (hv3 i vs[i] m.data[i] hu hx).form
            rw [ed] at c0
            have hsl := hs3 m.data[i] (List.mem_of_getElem? hx)
            have HX := Lib.hid hx
            clear hx hcell hu ed e1
            generalize m.data[i] = t at *
            have i0 : (0 : Int) ≤ (i : Int) := by omega
            have i1 : (i : Int) < (m.data.length : Int) := by omega
            by_cases hlong : 16384 < t.length
            · have q : (16384 : Int) < (t.length : Int) := by omega
              have HR2 : Hid (msgN m = 2) := Lib.hid (by rw [HR.out, HL1.out, longB_yes HX.out hlong]; rfl)
              clear HT HX hlong
              go_wp2_with fail
              refine (txFault_any _ _ _).mono ?_
              rintro e w3 ⟨rfl, rfl⟩
              go_wp2_with fail
              go_ret
              exact ⟨_, rfl, by rw [HR2.out]; exact IsErr.fault (by decide) rfl rfl, q1.alloc q1.size _⟩
            · have q : ¬((16384 : Int) < (t.length : Int)) := by omega
              have HT2 : Hid (∀ (j : Nat) (t : List UInt8), j < i + 1 → m.data[j]? = some t → t.length ≤ 16384) := Lib.hid (fun j t' hj ht => by
                rcases Nat.lt_succ_iff_lt_or_eq.1 hj with h | rfl
                · exact HT.out j t' h ht
                · obtain rfl := Option.some.inj (HX.out.symm.trans ht)
                  omega)
              clear HT HX hlong
              go_wp2_with fail
              go_roundg (gk - 1)
              case measure => omega
              case rel => exact ⟨i + 1, by omega, by go_num, HT2, rfl⟩
          · have HL2 : Hid (longB 16384 m.data = false) := Lib.hid (longB_no fun j t ht => HT.out j t (by have := (List.getElem?_eq_some_iff.1 ht).1; omega) ht)
            go_wp2_with fail
            go_ret
            exact ⟨_, rfl, by rw [HR.out, HL1.out, HL2.out]; exact IsErr.nil_ _, q1⟩
  · have HR : Hid (msgN m = 1) := Lib.hid (by simp [msgN, hf])
    have hcase : m.kind < 1 ∨ (1 ≤ m.kind ∧ 18 < m.kind) ∨ (1 ≤ m.kind ∧ m.kind ≤ 18 ∧ ¬m.texts.length = (shapeF m.kind).1) ∨ (1 ≤ m.kind ∧ m.kind ≤ 18 ∧ m.texts.length = (shapeF m.kind).1 ∧ ¬m.ints.length = (shapeF m.kind).2.1) ∨ (1 ≤ m.kind ∧ m.kind ≤ 18 ∧ m.texts.length = (shapeF m.kind).1 ∧ m.ints.length = (shapeF m.kind).2.1 ∧ ¬m.data.length = (shapeF m.kind).2.2) := by
      simp only [fitB, Bool.and_eq_true, decide_eq_true_eq] at hf
      omega
    clear hf
    generalize shapeF m.kind = S at *
    obtain ⟨a, b, c⟩ := S
    simp only at *
    generalize m.texts.length = n1 at *
    generalize m.ints.length = n2 at *
    generalize m.data.length = n3 at *
    generalize m.kind = k at *
    rcases hcase with hc | ⟨ha, hc⟩ | ⟨ha, hb, hc⟩ | ⟨ha, hb, rfl, hc⟩ | ⟨ha, hb, rfl, rfl, hc⟩
    all_goals
      try have hc5 := bne_iff_ne.2 (show (n3 : Int) ≠ (c : Int) by omega)
      go_enter Tryz.func32, Tryz.ntmps32
      go_wp2_with fail
      refine (cS _).mono ?_
      rintro e w2 ⟨rfl, hb2⟩
      have q1 := hb1.trans (hb2.mono hb1.size)
      have k0 := (hb2.cell (p := ⟨w.heap.size, 0, none⟩) (by simp)).trans (World.cell?_alloc_at _ _ _ _ rfl)
      have k1 := (hb2.cell (p := ⟨w.heap.size, 1, none⟩) (by simp)).trans (World.cell?_alloc_at _ _ _ _ rfl)
      have k2 := (hb2.cell (p := ⟨w.heap.size, 2, none⟩) (by simp)).trans (World.cell?_alloc_at _ _ _ _ rfl)
      have k3 := (hb2.cell (p := ⟨w.heap.size, 3, none⟩) (by simp)).trans (World.cell?_alloc_at _ _ _ _ rfl)
      go_wp2_with fail
      refine (txFault_any _ _ _).mono ?_
      rintro e w3 ⟨rfl, rfl⟩
      go_wp2_with fail
      go_ret
      exact ⟨_, rfl, by rw [HR.out]; exact IsErr.fault (by decide) rfl rfl, q1.alloc q1.size _⟩
end Go.Proofs.YteajgnoimbdkbaaGreatDoor
