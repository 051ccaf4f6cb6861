/- slices.ContainsFunc at coin.Full's closure. -/
import Derived.Test.YtbopkepjbifhhaaGreatDoorEnd2
import Derived.Test.YtbopkepjbifhhaaGreatDoorRep
namespace Go.Proofs.YtbopkepjbifhhaaGreatDoor
open Go.RowKit

theorem odd_any (s : ByteArray) (w : World) (hs : s.size ≤ 9223372036854775807) (hT : U8Tabs w) :
    Calls Tryz.prog 19 #[.string s] w fun e w' => e = .returned (.bool (!endB s)) ∧ Below w.heap.size w w' := by
  have c1 := end_any s w hs hT
  generalize endB s = d at *
  clear hT
  go_enter Tryz.func19, Tryz.ntmps19
  go_wp2_with fail
  refine c1.mono ?_
  rintro e w1 ⟨rfl, hb1⟩
  go_wp2
  go_ret
  exact ⟨rfl, hb1⟩

def IdxPost (l : List ByteArray) (w : World) (e : Ending) (w' : World) : Prop :=
  ∃ r : Int, e = .returned (.int .i64 r) ∧ decide (0 ≤ r) = l.any (fun s => !endB s) ∧ Below w.heap.size w w'

theorem indexFunc_any (v : Value) (l : List ByteArray) (w : World) (hv : Strs w v l) (hl : l.length ≤ 9223372036854775807) (hs : ∀ s ∈ l, s.size ≤ 9223372036854775807) (hT : U8Tabs w) :
    Calls Tryz.prog 40 #[v, .func (.func 19) #[] #[]] w (IdxPost l w) := by
  obtain ⟨A, c, rfl, hc, hcell⟩ := hv
  have HS := Lib.hid hs
  have HC := Lib.hid hcell
  clear hs hcell
  go_enter Tryz.func40, Tryz.ntmps40
  go_wp2
  go_loopg [8] l.length (fun k v wr => ∃ j : Nat, j + k = l.length ∧ v = .int .i64 j ∧ Below w.heap.size w wr ∧ (∀ i s, i < j → l[i]? = some s → endB s = true))
  case atStart => exact ⟨0, by omega, rfl, Below.refl _ _, fun i s hi => absurd hi (by omega)⟩
  case round =>
    obtain ⟨j, hj, rfl, hb, hall⟩ := hrel
    have HA := Lib.hid hall
    have HB := Lib.hid hb
    by_cases hlt : j < l.length
    · obtain ⟨b, o, rfl, hbl, hcell⟩ := HC.out (by omega)
      have hx : l[j]? = some l[j] := List.getElem?_eq_getElem hlt
      have hc0 : wr.cell? ⟨b, o + j, none⟩ = some (.string l[j]) := (hb.cell (p := ⟨b, o + j, none⟩) hbl).trans (hcell j _ hx)
      have c1 := odd_any l[j] wr (HS.out _ (List.getElem_mem _)) (Utf8Tabs_below hT hb)
      have HX := Lib.hid hx
      clear hcell hall hb hx
      generalize l[j] = x at *
      cases he : endB x
      · rw [he] at c1
        have HE := Lib.hid he
        clear he
        go_wp2_with (go_at_call 19; refine c1.mono ?_; rintro e w1 ⟨rfl, hb1⟩)
        go_ret
        refine ⟨j, rfl, ?_, HB.out.trans (hb1.mono HB.out.size)⟩
        have hany : l.any (fun s => !endB s) = true := List.any_eq_true.2 ⟨x, List.mem_of_getElem? HX.out, by rw [HE.out]; rfl⟩
        rw [hany]
        exact decide_eq_true (by omega)
      · rw [he] at c1
        have HE := Lib.hid he
        clear he
        go_wp2_with (go_at_call 19; refine c1.mono ?_; rintro e w1 ⟨rfl, hb1⟩)
        go_roundg (l.length - (j + 1))
        case measure => omega
        case rel =>
          refine ⟨j + 1, by omega, by go_num, HB.out.trans (hb1.mono HB.out.size), fun i s hi hg => ?_⟩
          rcases Nat.lt_or_ge i j with h | h
          · exact HA.out i s h hg
          · obtain rfl : i = j := by omega
            have := HX.out
            rw [hg] at this
            obtain rfl := Option.some.inj this
            exact HE.out
    · clear hall hb
      go_wp2
      go_ret
      refine ⟨-1, rfl, ?_, HB.out⟩
      have hany : l.any (fun s => !endB s) = false := by
        rw [List.any_eq_false]
        intro s hs
        obtain ⟨i, hi, rfl⟩ := List.mem_iff_getElem.1 hs
        rw [HA.out i _ (by omega) (List.getElem?_eq_getElem hi)]
        simp
      rw [hany]
      rfl

theorem containsFunc_any (v : Value) (l : List ByteArray) (w : World) (hv : Strs w v l) (hl : l.length ≤ 9223372036854775807) (hs : ∀ s ∈ l, s.size ≤ 9223372036854775807) (hT : U8Tabs w) :
    Calls Tryz.prog 21 #[v, .func (.func 19) #[] #[]] w fun e w' => e = .returned (.bool (l.any fun s => !endB s)) ∧ Below w.heap.size w w' := by
  have c1 := indexFunc_any v l w hv hl hs hT
  clear hv hs hT
  go_enter Tryz.func21, Tryz.ntmps21
  go_wp2_with fail
  refine c1.mono ?_
  rintro e w1 ⟨r, rfl, hr, hb1⟩
  have HR := Lib.hid hr
  clear hr
  go_wp2
  go_ret
  exact ⟨ret_bool HR.out, hb1⟩
end Go.Proofs.YtbopkepjbifhhaaGreatDoor
