/- coin.Denom: the denomination that a trace has. -/
import Derived.Test.YtbopkepjbifhhaaGreatDoorSlash
import Derived.Test.YtbopkepjbifhhaaGreatDoorBack
import Derived.Lib.ConvBytes
namespace Go.Proofs.YtbopkepjbifhhaaGreatDoor
open Go.RowKit

/-- A text's bytes as numbers. -/
def byteF (s : ByteArray) (i : Nat) : Int := ((s.data.toList.getD i 0).toNat : Int)
def ibc : ByteArray := ⟨#[105, 98, 99, 47]⟩
/-- A trace's denomination, and the error's number. -/
def denomF (p : List ByteArray) (b : ByteArray) : ByteArray × Int :=
  if (fullS p b).2 ≠ 0 ∨ p.length = 0 then fullS p b else (ibc ++ textS (shaF (byteF (fullS p b).1) (fullS p b).1.size), 0)
def DenomPost (p : List ByteArray) (b : ByteArray) (w : World) (e : Ending) (w' : World) : Prop :=
  ∃ ev, e = .returned (.tuple #[.string (denomF p b).1, ev]) ∧ IsErr w' ev (denomF p b).2 ∧ Below w.heap.size w w'

/-- The rounds' words stand. -/
def ShaTab (w : World) : Prop := (∀ i, i < 64 → w.cell? ⟨1, i, none⟩ = some (.int .u32 (kF i))) ∧ 1 < w.heap.size
theorem ShaTab.keep {w w' : World} (h : ShaTab w) (hb : Below w.heap.size w w') : ShaTab w' :=
  ⟨fun i hi => (hb.cell (p := ⟨1, i, none⟩) h.2).trans (h.1 i hi), Nat.lt_of_lt_of_le h.2 hb.size⟩

set_option maxRecDepth 100000 in
set_option maxHeartbeats 2000000 in
theorem denom_any (v : Value) (p : List ByteArray) (b : ByteArray) (w : World) (hv : Strs w v p) (hl : p.length ≤ 9223372036854775807) (hs : ∀ s ∈ p, s.size ≤ 9223372036854775807) (hb : b.size ≤ 9223372036854775807) (hT : U8Tabs w) (hK : ShaTab w) :
    Calls Tryz.prog 7 #[.agg #[v, .string b]] w (DenomPost p b w) := by
  have hb1 : ∀ o, Below w.heap.size w (w.alloc o) := fun o => below_alloc w o
  have cF := fun o => full_any v p b (w.alloc o) (hv.keep (hb1 o)) hl hs hb (Utf8Tabs_below hT (hb1 o))
  unfold FullPost at cF
  obtain ⟨A, c, rfl, _⟩ := hv
  have HD : Hid (denomF p b = if (fullS p b).2 ≠ 0 ∨ p.length = 0 then fullS p b else (ibc ++ textS (shaF (byteF (fullS p b).1) (fullS p b).1.size), 0)) := Lib.hid rfl
  obtain ⟨⟨fs, fn⟩, hf⟩ : ∃ r, fullS p b = r := ⟨_, rfl⟩
  rw [hf] at cF HD
  simp only at cF HD
  have HF := Lib.hid hf
  clear hf
  go_enter Tryz.func7, Tryz.ntmps7
  go_wp2_with fail
  refine (cF _).mono ?_
  rintro e w1 ⟨ev, rfl, hE, hbw⟩
  have hB := (hb1 _).trans (hbw.mono (hb1 _).size)
  by_cases h0 : fn = 0
  · subst h0
    obtain rfl := hE.zero
    have k0 := (hbw.cell (p := ⟨w.heap.size, 0, none⟩) (by simp)).trans (World.cell?_alloc_at _ _ _ _ rfl)
    have hz : w.heap.size < w1.heap.size := by have := hbw.size; simp at this; omega
    by_cases hp : p.length = 0
    · have hp2 : ((p.length : Int) = 0) := by omega
      go_wp2_with fail
      have hd : denomF p b = (fs, 0) := by rw [HD.out, if_pos (.inr hp)]
      refine bodyPost_ret (v := .tuple #[.string fs, .nilIface]) (by simp [results, Tryz.results7, go_sem]) rfl ?_
      exact ⟨_, by rw [hd], by rw [hd]; exact IsErr.nil_ _, hB⟩
    · have hp2 : ¬((p.length : Int) = 0) := by omega
      go_wp2_with fail
      rw [Lib.run_convert_string_bytes w1 9 53 5 fs Tryz.underlying9 Tryz.underlying53 Tryz.underlying5]
      simp only [Result.andThen]
      rw [Oper.upon_value]
      have hsz : fs.size ≤ 378 := by
        obtain ⟨h8, ho, hb', hj⟩ := fullS_ok (p := p) (b := b) (by rw [HF.out])
        rw [HF.out] at hj
        have hj2 : fs = joinS p b := hj
        have := full_len ho hb' h8
        rw [hj2]
        simpa [joinS, ByteArray.size] using this
      have hbb : Below w1.heap.size w1 (Lib.bytesWorld w1 5 fs) := ⟨rfl, rfl, rfl, by rw [Lib.bytesWorld_size]; omega, fun k hk => Lib.bytesWorld_at_old w1 _ _ k hk⟩
      have hrow : Row (Lib.bytesWorld w1 5 fs) (.slice (some ⟨w1.heap.size, 0, none⟩) fs.size (grownCap w1 fs.size 0 5)) 1 fs.size (octets fs.size (byteF fs)) := by
        refine ⟨by rw [octets_length]; omega, _, _, rfl, ⟨grownCap_ge _ _ _ _, fun h => by cases h⟩, fun _ => ⟨w1.heap.size, 0, rfl, by rw [Lib.bytesWorld_size]; omega, fun i u hu => ?_⟩⟩
        have hi : i < fs.size := by have := (List.getElem?_eq_some_iff.1 hu).1; rwa [octets_length] at this
        rw [octets_get hi] at hu
        cases hu
        rw [Nat.zero_add]
        exact Lib.bytesWorld_cell w1 _ _ i hi
      have hB2 := hB.trans (hbb.mono hB.size)
      obtain ⟨hK1, hK2⟩ := hK.keep hB2
      have cS := sum_any _ fs.size (byteF fs) _ hrow (by omega) hK1 hK2
      go_wp2_with fail
      refine cS.mono ?_
      rintro e w3 ⟨rfl, hb3⟩
      have hts : (textS (shaF (byteF fs) fs.size)).size = 64 := textS_size _
      have cT := text_any (shaF (byteF fs) fs.size) (fun i _ => shaF_range _ _ i) w3
      go_wp2_with fail
      refine cT.mono ?_
      rintro e w4 ⟨rfl, hb4⟩
      go_wp2_with fail
      have hd : denomF p b = (ibc ++ textS (shaF (byteF fs) fs.size), 0) := by rw [HD.out, if_neg (by omega)]
      refine bodyPost_ret (v := .tuple #[.string (ibc ++ textS (shaF (byteF fs) fs.size)), .nilIface]) (by simp [results, Tryz.results7, go_sem, ibc]) rfl ?_
      exact ⟨_, by rw [hd], by rw [hd]; exact IsErr.nil_ _, (hB2.trans (hb3.mono hB2.size)).trans (hb4.mono (Nat.le_trans hB2.size hb3.size))⟩
  · obtain ⟨t, x, rfl⟩ := hE.iface h0
    go_wp2_with fail
    have hd : denomF p b = (fs, fn) := by rw [HD.out, if_pos (.inl h0)]
    refine bodyPost_ret (v := .tuple #[.string fs, .iface t x]) (by simp [results, Tryz.results7, go_sem]) rfl ?_
    exact ⟨_, by rw [hd], by rw [hd]; exact hE, hB⟩
end Go.Proofs.YtbopkepjbifhhaaGreatDoor
