/- isthmusref14.Denom: the denomination that a trace has, as the program's. -/
import Derived.Test.YtbopkepjbifhhaaGreatDoorDenom
import Derived.Test.YtbopkepjbifhhaaGreatDoorRefSum
import Derived.Test.YtbopkepjbifhhaaGreatDoorRefText
import Derived.Test.YtbopkepjbifhhaaGreatDoorRef4
namespace Go.Proofs.YtbopkepjbifhhaaGreatDoor
open Go.RowKit

def RefDenomPost (p : List ByteArray) (b : ByteArray) (w : World) (e : Ending) (w' : World) : Prop :=
  e = .returned (.tuple #[.string (denomF p b).1, .int .i64 (denomF p b).2]) ∧ Below w.heap.size w w'

set_option maxRecDepth 100000 in
set_option maxHeartbeats 2000000 in
theorem refDenom_any (v : Value) (p : List ByteArray) (b : ByteArray) (w : World) (hv : Strs w v p) (hl : p.length ≤ 9223372036854775807) (hs : ∀ s ∈ p, s.size ≤ 9223372036854775807) (hb : b.size ≤ 9223372036854775807) :
    Calls Tryz.prog 8 #[.agg #[v, .string b]] w (RefDenomPost p b w) := by
  have hb1 : ∀ o, Below w.heap.size w (w.alloc o) := fun o => below_alloc w o
  have cF := fun o => refFull_any v p b (w.alloc o) (hv.keep (hb1 o)) hl hs hb
  unfold RefFullPost at cF
  obtain ⟨A, c, rfl, _⟩ := hv
  have HD : Hid (denomF p b = if (fullS p b).2 ≠ 0 ∨ p.length = 0 then fullS p b else (ibc ++ textS (shaF (byteF (fullS p b).1) (fullS p b).1.size), 0)) := Lib.hid rfl
  obtain ⟨⟨fs, fn⟩, hf⟩ : ∃ r, fullS p b = r := ⟨_, rfl⟩
  rw [hf] at cF HD
  simp only at cF HD
  have HF := Lib.hid hf
  clear hf
  go_enter Tryz.func8, Tryz.ntmps8
  go_wp2_with fail
  refine (cF _).mono ?_
  rintro e w1 ⟨rfl, hbw⟩
  have hB := (hb1 _).trans (hbw.mono (hb1 _).size)
  by_cases h0 : fn = 0
  · subst h0
    have k0 := (hbw.cell (p := ⟨w.heap.size, 0, none⟩) (by simp)).trans (World.cell?_alloc_at _ _ _ _ rfl)
    have hz : w.heap.size < w1.heap.size := by have := hbw.size; simp at this; omega
    by_cases hp : p.length = 0
    · have hp2 : ((p.length : Int) = 0) := by omega
      go_wp2_with fail
      have hd : denomF p b = (fs, 0) := by rw [HD.out, if_pos (.inr hp)]
      refine bodyPost_ret (v := .tuple #[.string fs, .int .i64 0]) (by simp [results, Tryz.results8, go_sem]) rfl ?_
      exact ⟨by rw [hd], hB⟩
    · have hp2 : ¬((p.length : Int) = 0) := by omega
      go_wp2_with fail
      rw [Lib.run_convert_string_bytes w1 9 53 5 fs Tryz.underlying9 Tryz.underlying53 Tryz.underlying5]
      simp only [Result.andThen]
      rw [Oper.upon_value]
      have hsz : fs.size ≤ 378 := by
        obtain ⟨h8, ho, hb', hj⟩ := fullS_ok (p := p) (b := b) (by rw [HF.out])
        rw [HF.out] at hj
        have hj2 : fs = joinS p b := hj
        have := full_len ho hb' h8
        rw [hj2]
        simpa [joinS, ByteArray.size] using this
      have hbb : Below w1.heap.size w1 (Lib.bytesWorld w1 5 fs) := ⟨rfl, rfl, rfl, by rw [Lib.bytesWorld_size]; omega, fun k hk => Lib.bytesWorld_at_old w1 _ _ k hk⟩
      have hrow : Row (Lib.bytesWorld w1 5 fs) (.slice (some ⟨w1.heap.size, 0, none⟩) fs.size (grownCap w1 fs.size 0 5)) 1 fs.size (octets fs.size (byteF fs)) := by
        refine ⟨by rw [octets_length]; omega, _, _, rfl, ⟨grownCap_ge _ _ _ _, fun h => by cases h⟩, fun _ => ⟨w1.heap.size, 0, rfl, by rw [Lib.bytesWorld_size]; omega, fun i u hu => ?_⟩⟩
        have hi : i < fs.size := by have := (List.getElem?_eq_some_iff.1 hu).1; rwa [octets_length] at this
        rw [octets_get hi] at hu
        cases hu
        rw [Nat.zero_add]
        exact Lib.bytesWorld_cell w1 _ _ i hi
      have hB2 := hB.trans (hbb.mono hB.size)
      have cS := refSum_any _ fs.size (byteF fs) _ hrow (by omega)
      go_wp2_with fail
      refine cS.mono ?_
      rintro e w3 ⟨rfl, hb3⟩
      have hts : (textS (shaF (byteF fs) fs.size)).size = 64 := textS_size _
      have cT := refText_any (shaF (byteF fs) fs.size) (fun i _ => shaF_range _ _ i) w3
      go_wp2_with fail
      refine cT.mono ?_
      rintro e w4 ⟨rfl, hb4⟩
      go_wp2_with fail
      have hd : denomF p b = (ibc ++ textS (shaF (byteF fs) fs.size), 0) := by rw [HD.out, if_neg (by omega)]
      refine bodyPost_ret (v := .tuple #[.string (ibc ++ textS (shaF (byteF fs) fs.size)), .int .i64 0]) (by simp [results, Tryz.results8, go_sem, ibc]) rfl ?_
      exact ⟨by rw [hd], (hB2.trans (hb3.mono hB2.size)).trans (hb4.mono (Nat.le_trans hB2.size hb3.size))⟩
  · go_wp2_with fail
    have hd : denomF p b = (fs, fn) := by rw [HD.out, if_pos (.inl h0)]
    refine bodyPost_ret (v := .tuple #[.string fs, .int .i64 fn]) (by simp [results, Tryz.results8, go_sem]) rfl ?_
    exact ⟨by rw [hd], hB⟩
end Go.Proofs.YtbopkepjbifhhaaGreatDoor
