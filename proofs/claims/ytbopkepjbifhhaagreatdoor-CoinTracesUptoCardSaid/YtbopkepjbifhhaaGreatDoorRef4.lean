/- The document's Full. -/
import Derived.Test.YtbopkepjbifhhaaGreatDoorRef3
namespace Go.Proofs.YtbopkepjbifhhaaGreatDoor
open Go.RowKit

theorem headS_take_succ (p : List ByteArray) (j : Nat) (h : j < p.length) : headS (p.take (j + 1)) = headS (p.take j) ++ p[j] ++ ⟨#[47]⟩ := by
  rw [List.take_succ_eq_append_getElem h, headS_snoc]
theorem any_of_bad {p : List ByteArray} {j : Nat} {h : j < p.length} (hb : endB p[j] = false) : p.any (fun s => !endB s) = true :=
  List.any_eq_true.2 ⟨p[j], List.getElem_mem h, by rw [hb]; rfl⟩
theorem any_of_good {p : List ByteArray} (h : ∀ i s, i < p.length → p[i]? = some s → endB s = true) : p.any (fun s => !endB s) = false := by
  rw [List.any_eq_false]
  intro s hs
  obtain ⟨i, hi, rfl⟩ := List.mem_iff_getElem.1 hs
  rw [h i _ hi (List.getElem?_eq_getElem hi)]
  simp

def RefFullPost (p : List ByteArray) (b : ByteArray) (w : World) (e : Ending) (w' : World) : Prop :=
  e = .returned (.tuple #[.string (fullS p b).1, .int .i64 (fullS p b).2]) ∧ Below w.heap.size w w'

set_option maxRecDepth 100000 in
set_option maxHeartbeats 1000000 in
theorem refFull_any (v : Value) (p : List ByteArray) (b : ByteArray) (w : World) (hv : Strs w v p) (hl : p.length ≤ 9223372036854775807) (hs : ∀ s ∈ p, s.size ≤ 9223372036854775807) (hb : b.size ≤ 9223372036854775807) :
    Calls Tryz.prog 6 #[.agg #[v, .string b]] w (RefFullPost p b w) := by
  have hbx := below_alloc w (.cells #[v, .string b] 24)
  have hv1 := hv.keep hbx
  obtain ⟨A, c, rfl, hc, hcell⟩ := hv
  by_cases h8 : 8 < p.length
  · have hr : fullS p b = (⟨#[]⟩, 2) := by simp [fullS, h8]
    have HR := Lib.hid hr
    have HB := Lib.hid hbx
    clear hr hcell hs hv1 hbx
    go_enter Tryz.func6, Tryz.ntmps6
    go_wp2
    go_ret2
    exact ⟨by rw [HR.out]; rfl, HB.out⟩
  · have HV := Lib.hid hv1
    have HB := Lib.hid hbx
    have HS := Lib.hid hs
    have c3 := fun w1 => refBase_any b w1 hb
    clear hcell hs hv1 hbx
    go_enter Tryz.func6, Tryz.ntmps6
    go_wp2
    go_loopg [4, 5] p.length (fun k t i wr => ∃ j : Nat, j + k = p.length ∧ i = .int .i64 j ∧ t = .string (headS (p.take j)) ∧ wr = w.alloc (.cells #[.slice A p.length c, .string b] 24) ∧ (∀ i s, i < j → p[i]? = some s → endB s = true))
    case atStart => exact ⟨0, by omega, rfl, rfl, rfl, fun i s hi => absurd hi (by omega)⟩
    case round =>
      obtain ⟨j, hj, rfl, rfl, rfl, hall⟩ := hrel
      have HA := Lib.hid hall
      clear hall
      by_cases hlt : j < p.length
      · obtain ⟨A', c', hA', _, hcs⟩ := HV.out
        obtain ⟨g, o, hA, hgl, hcell⟩ := hcs (by omega)
        injection hA' with e1 e2 e3
        subst e1 e3 hA
        have hx : p[j]? = some p[j] := List.getElem?_eq_getElem hlt
        have hc0 := hcell j _ hx
        have c1 := refEnd_any p[j] (w.alloc (.cells #[.slice (some ⟨g, o, none⟩) p.length c, .string b] 24)) (HS.out _ (List.getElem_mem _))
        have hts := headS_take_succ p j hlt
        have hbad : endB p[j] = false → p.any (fun s => !endB s) = true := any_of_bad
        have hsz : (headS (p.take j)).size ≤ j * 42 := by
          refine Nat.le_trans (headS_size _ fun s hs => ?_) (Nat.mul_le_mul_right _ (List.length_take_le _ _))
          obtain ⟨i, hi, rfl⟩ := List.mem_iff_getElem.1 hs
          simp only [List.length_take] at hi
          exact endB_size (HA.out i _ (by omega) (by rw [List.getElem_take]; exact List.getElem?_eq_getElem (by omega)))
        have hes : endB p[j] = true → p[j].size ≤ 41 := endB_size
        have HX := Lib.hid hx
        have HT := Lib.hid hts
        have HD := Lib.hid hbad
        have HE2 := Lib.hid hes
        clear hx hts hbad hcs hcell hes hgl e2
        generalize p[j] = x at *
        cases he : endB x
        · rw [he] at c1
          have hr : fullS p b = (⟨#[]⟩, 40) := by rw [fullS, if_neg h8, HD.out he]; rfl
          have HR := Lib.hid hr
          clear he hr
          go_wp2_with fail
          refine c1.mono ?_
          rintro e w1 ⟨rfl, rfl⟩
          go_wp2
          go_ret2
          exact ⟨by rw [HR.out]; rfl, HB.out⟩
        · rw [he] at c1
          have hx41 := HE2.out he
          have HE := Lib.hid he
          clear he
          go_wp2_with fail
          refine c1.mono ?_
          rintro e w1 ⟨rfl, rfl⟩
          go_wp2
          go_roundg (p.length - (j + 1))
          case measure => omega
          case rel =>
            refine ⟨j + 1, by omega, by go_num, by rw [HT.out], rfl, fun i s hi hg => ?_⟩
            rcases Nat.lt_or_ge i j with h | h
            · exact HA.out i s h hg
            · obtain rfl : i = j := by omega
              have := HX.out
              rw [hg] at this
              obtain rfl := Option.some.inj this
              exact HE.out
      · have hje : j = p.length := by omega
        subst hje
        have hgood := any_of_good HA.out
        have hh : headS (p.take p.length) = headS p := by rw [List.take_length]
        have hsz : (headS p).size ≤ 336 := by
          refine Nat.le_trans (headS_size _ fun s hs => ?_) (by omega : p.length * 42 ≤ 336)
          have := List.any_eq_false.1 hgood s hs
          exact endB_size (by simpa using this)
        rw [hh]
        have HG := Lib.hid hgood
        clear hgood hh
        have c4 := c3 (w.alloc (.cells #[.slice A p.length c, .string b] 24))
        clear c3
        cases hbb : baseB b
        · rw [hbb] at c4
          have hr : fullS p b = (⟨#[]⟩, 40) := by rw [fullS, if_neg h8, HG.out, hbb]; rfl
          have HR := Lib.hid hr
          clear hbb hr
          go_wp2_with fail
          refine c4.mono ?_
          rintro e w1 ⟨rfl, rfl⟩
          go_wp2
          go_ret2
          exact ⟨by rw [HR.out]; rfl, HB.out⟩
        · rw [hbb] at c4
          have hb16 := baseB_size hbb
          have hr : fullS p b = (headS p ++ b, 0) := by rw [fullS, if_neg h8, HG.out, hbb, ← join_headS]; rfl
          have HR := Lib.hid hr
          clear hbb hr
          go_wp2_with fail
          refine c4.mono ?_
          rintro e w1 ⟨rfl, rfl⟩
          go_wp2
          go_ret2
          exact ⟨by rw [HR.out]; rfl, HB.out⟩
end Go.Proofs.YtbopkepjbifhhaaGreatDoor
