/- The walk of isthmuslaw14.CoinTraces: whatever the trace and the text are, it returns true. -/
import Derived.Test.YtbopkepjbifhhaaGreatDoorRefDenom
import Derived.Test.YtbopkepjbifhhaaGreatDoorRefCheck
import Derived.Test.YtbopkepjbifhhaaGreatDoorRefPath
import Derived.Test.YtbopkepjbifhhaaGreatDoorSure
namespace Go.Proofs.YtbopkepjbifhhaaGreatDoor
open Go.RowKit

theorem parseF_len (s : ByteArray) : (parseF s).1.1.length ≤ 8 := by
  unfold parseF
  simp only
  split
  · rename_i h
    exact (fullS_ok h.1).1
  · simp
theorem denom_size (p : List ByteArray) (b : ByteArray) : (denomF p b).1.size ≤ 378 := by
  unfold denomF
  split
  · by_cases h : (fullS p b).2 = 0
    · obtain ⟨h8, ho, hb, hj⟩ := fullS_ok h
      rw [hj]
      have := full_len ho hb h8
      simpa [joinS, ByteArray.size] using this
    · unfold fullS at h ⊢
      split
      · exact Nat.zero_le _
      · split
        · exact Nat.zero_le _
        · rename_i h1 h2
          rw [if_neg h1, if_neg h2] at h
          exact absurd rfl h
  · rw [ByteArray.size_append, textS_size]
    decide

set_option maxRecDepth 100000 in
set_option maxHeartbeats 8000000 in
theorem traces_any (v : Value) (p : List ByteArray) (b s : ByteArray) (w : World) (hv : Strs w v p) (hl : p.length * 16 ≤ 140737488351232) (hs : ∀ x ∈ p, x.size ≤ 9223372036854775807) (hb : b.size ≤ 9223372036854775807)
    (hss : s.size < 4294967281) (hT : U8Tabs w) (hG : ErrType w) (hK : ShaTab w) (hM : MaxLenInt w) :
    Calls Tryz.prog 3 #[.agg #[v, .string b], .string s] w (TruePost w) := by
  have hl1 : p.length ≤ 9223372036854775807 := by omega
  have hs1 : s.size ≤ 9223372036854775807 := by omega
  have cG : ∀ W, Below w.heap.size w W → Calls Tryz.prog 5 #[.agg #[v, .string b]] W (TracePost p b W) := fun W h => give_any v p b W (hv.keep h) (by omega)
  have cU : ∀ x W, Below w.heap.size w W → Strs W x p → Calls Tryz.prog 4 #[.agg #[x, .string b]] W (FullPost p b W) := fun x W h hx => full_any x p b W hx hl1 hs hb (Utf8Tabs_below hT h)
  have cRU : ∀ W, Below w.heap.size w W → Calls Tryz.prog 6 #[.agg #[v, .string b]] W (RefFullPost p b W) := fun W h => refFull_any v p b W (hv.keep h) hl1 hs hb
  have cD : ∀ x W, Below w.heap.size w W → Strs W x p → Calls Tryz.prog 7 #[.agg #[x, .string b]] W (DenomPost p b W) := fun x W h hx => denom_any x p b W hx hl1 hs hb (Utf8Tabs_below hT h) (hK.keep h)
  have cRD : ∀ W, Below w.heap.size w W → Calls Tryz.prog 8 #[.agg #[v, .string b]] W (RefDenomPost p b W) := fun W h => refDenom_any v p b W (hv.keep h) hl1 hs hb
  have cP : ∀ W, Below w.heap.size w W → Calls Tryz.prog 9 #[.string s] W (WayPost (parseF s) W) := fun W h => parse_any s W hss (Utf8Tabs_below hT h) (hM.keep h)
  have cRP : ∀ W, Below w.heap.size w W → Calls Tryz.prog 10 #[.string s] W (RefPathPost (parseF s) W) := fun W _ => refPath_any s W hss
  have cB : ∀ W, Below w.heap.size w W → Calls Tryz.prog 13 #[.string s] W _ := fun W h => base_any s W hs1 (Utf8Tabs_below hT h)
  have cRB : ∀ W, Calls Tryz.prog 14 #[.string s] W _ := fun W => refBase_any s W hs1
  have cC : ∀ W, Below w.heap.size w W → Calls Tryz.prog 15 #[.string s] W (CheckPost s W) := fun W h => check_any s W hs1 (Utf8Tabs_below hT h)
  have cRC : ∀ W, Below w.heap.size w W → Calls Tryz.prog 16 #[.string s] W (RefCheckPost s W) := fun W _ => refCheck_any s W hs1
  have hds := denom_size p b
  have cCd : ∀ W, Below w.heap.size w W → Calls Tryz.prog 15 #[.string (denomF p b).1] W (CheckPost (denomF p b).1 W) := fun W h => check_any _ W (by omega) (Utf8Tabs_below hT h)
  have cRCd : ∀ W, Below w.heap.size w W → Calls Tryz.prog 16 #[.string (denomF p b).1] W (RefCheckPost (denomF p b).1 W) := fun W _ => refCheck_any _ W (by omega)
  have cS : ∀ W, Below w.heap.size w W → Calls Tryz.prog 17 #[] W _ := fun W h => sure_any W (Utf8Tabs_below hT h)
  have HG : ∀ W, Below w.heap.size w W → ErrType W := fun W h => (h.cell (cell_lt hG)).trans hG
  have hQl : (parseF s).1.1.length ≤ 9223372036854775807 := Nat.le_trans (parseF_len s) (by decide)
  unfold TracePost at cG
  unfold FullPost at cU
  unfold RefFullPost at cRU
  unfold DenomPost at cD
  unfold RefDenomPost at cRD
  unfold WayPost at cP
  unfold RefPathPost at cRP
  unfold CheckPost at cC cCd
  unfold RefCheckPost at cRC cRCd
  generalize fullS p b = F at *
  generalize denomF p b = D at *
  generalize parseF s = R at *
  generalize hbs : baseB s = bs at *
  generalize checkF s = ck at *
  obtain ⟨fs, fn⟩ := F
  obtain ⟨ds, dn⟩ := D
  obtain ⟨⟨Q, Qb⟩, qn⟩ := R
  simp only at *
  generalize checkF ds = cd at *
  obtain ⟨A0, c0, rfl, _, _⟩ := id hv
  clear hT hK hM hG hs hb hss hs1 hl hl1 hds hv hbs
  go_enter Tryz.func3, Tryz.ntmps3
  go_wp2_with fail
  obtain ⟨W1, eW1, kn⟩ : ∃ W', (w.alloc (.cells #[.slice A0 p.length c0, .string b] 24)) = W' ∧ Two W' w.heap.size (.slice A0 p.length c0) (.string b) := ⟨_, rfl, two_new _ _ _ _⟩
  have bW1 := below_alloc w (.cells #[.slice A0 p.length c0, .string b] 24)
  rw [eW1] at bW1
  rw [eW1]
  have q1 := bW1
  obtain ⟨kt0, kt1⟩ := kn
  have hzt := cell_lt kt0
  clear eW1 bW1
  refine (cG _ q1).mono ?_
  rintro e1 w1 ⟨x1, rfl, hx1, hb1⟩
  have q2 := q1.trans (hb1.mono q1.size)
  have two_t_2 := (Two.mk kt0 kt1).keep hb1
  clear kt0 kt1 hzt
  obtain ⟨kt0, kt1⟩ := two_t_2
  have hzt := cell_lt kt0
  clear hb1
  obtain ⟨A1, c1, rfl, _, _⟩ := id hx1
  go_wp2_with fail
  refine (cU _ w1 q2 hx1).mono ?_
  rintro e2 w2 ⟨e2, rfl, hE2, hb2⟩
  have q3 := q2.trans (hb2.mono q2.size)
  have two_t_3 := (Two.mk kt0 kt1).keep hb2
  clear kt0 kt1 hzt
  obtain ⟨kt0, kt1⟩ := two_t_3
  have hzt := cell_lt kt0
  clear hb2
  clear hx1
  go_wp2_with fail
  refine (cRU _ q3).mono ?_
  rintro e3 w3 ⟨rfl, hb3⟩
  have q4 := q3.trans (hb3.mono q3.size)
  have two_t_4 := (Two.mk kt0 kt1).keep hb3
  replace hE2 := hE2.keep hb3
  clear kt0 kt1 hzt
  obtain ⟨kt0, kt1⟩ := two_t_4
  have hzt := cell_lt kt0
  clear hb3
  go_wp2_with fail
  refine (cG _ q4).mono ?_
  rintro e4 w4 ⟨x4, rfl, hx4, hb4⟩
  have q5 := q4.trans (hb4.mono q4.size)
  have two_t_5 := (Two.mk kt0 kt1).keep hb4
  replace hE2 := hE2.keep hb4
  clear kt0 kt1 hzt
  obtain ⟨kt0, kt1⟩ := two_t_5
  have hzt := cell_lt kt0
  clear hb4
  obtain ⟨A4, c4, rfl, _, _⟩ := id hx4
  go_wp2_with fail
  refine (cD _ w4 q5 hx4).mono ?_
  rintro e5 w5 ⟨e5, rfl, hE5, hb5⟩
  have q6 := q5.trans (hb5.mono q5.size)
  have two_t_6 := (Two.mk kt0 kt1).keep hb5
  replace hE2 := hE2.keep hb5
  clear kt0 kt1 hzt
  obtain ⟨kt0, kt1⟩ := two_t_6
  have hzt := cell_lt kt0
  clear hb5
  clear hx4
  go_wp2_with fail
  refine (cRD _ q6).mono ?_
  rintro e6 w6 ⟨rfl, hb6⟩
  have q7 := q6.trans (hb6.mono q6.size)
  have two_t_7 := (Two.mk kt0 kt1).keep hb6
  replace hE2 := hE2.keep hb6
  replace hE5 := hE5.keep hb6
  clear kt0 kt1 hzt
  obtain ⟨kt0, kt1⟩ := two_t_7
  have hzt := cell_lt kt0
  clear hb6
  go_wp2_with fail
  refine (cP _ q7).mono ?_
  rintro e7 w7 ⟨x7, e7, rfl, hx7, hE7, hb7⟩
  have q8 := q7.trans (hb7.mono q7.size)
  have two_t_8 := (Two.mk kt0 kt1).keep hb7
  replace hE2 := hE2.keep hb7
  replace hE5 := hE5.keep hb7
  clear kt0 kt1 hzt
  obtain ⟨kt0, kt1⟩ := two_t_8
  have hzt := cell_lt kt0
  clear hb7
  obtain ⟨A7, c7, rfl, _, _⟩ := id hx7
  go_wp2_with fail
  obtain ⟨W9, eW9, kn⟩ : ∃ W', (w7.alloc (.cells #[.slice A7 Q.length c7, .string Qb] 29)) = W' ∧ Two W' w7.heap.size (.slice A7 Q.length c7) (.string Qb) := ⟨_, rfl, two_new _ _ _ _⟩
  have bW9 := below_alloc w7 (.cells #[.slice A7 Q.length c7, .string Qb] 29)
  rw [eW9] at bW9
  rw [eW9]
  have q9 := q8.trans (bW9.mono q8.size)
  have two_t_9 := (Two.mk kt0 kt1).keep bW9
  replace hE2 := hE2.keep bW9
  replace hE5 := hE5.keep bW9
  replace hx7 := hx7.keep bW9
  replace hE7 := hE7.keep bW9
  clear kt0 kt1 hzt
  obtain ⟨kt0, kt1⟩ := two_t_9
  have hzt := cell_lt kt0
  obtain ⟨kx0, kx1⟩ := kn
  have hzx := cell_lt kx0
  clear eW9 bW9
  refine (cRP _ q9).mono ?_
  rintro e9 w8 ⟨x8, rfl, hx8, hb8⟩
  have q10 := q9.trans (hb8.mono q9.size)
  have two_t_10 := (Two.mk kt0 kt1).keep hb8
  have two_x_10 := (Two.mk kx0 kx1).keep hb8
  replace hE2 := hE2.keep hb8
  replace hE5 := hE5.keep hb8
  replace hx7 := hx7.keep hb8
  replace hE7 := hE7.keep hb8
  clear kt0 kt1 hzt
  obtain ⟨kt0, kt1⟩ := two_t_10
  have hzt := cell_lt kt0
  clear kx0 kx1 hzx
  obtain ⟨kx0, kx1⟩ := two_x_10
  have hzx := cell_lt kx0
  clear hb8
  obtain ⟨A8, c8, rfl, _, _⟩ := id hx8
  go_wp2_with fail
  obtain ⟨W11, eW11, kn⟩ : ∃ W', (w8.alloc (.cells #[.slice A8 Q.length c8, .string Qb] 24)) = W' ∧ Two W' w8.heap.size (.slice A8 Q.length c8) (.string Qb) := ⟨_, rfl, two_new _ _ _ _⟩
  have bW11 := below_alloc w8 (.cells #[.slice A8 Q.length c8, .string Qb] 24)
  rw [eW11] at bW11
  rw [eW11]
  have q11 := q10.trans (bW11.mono q10.size)
  have two_t_11 := (Two.mk kt0 kt1).keep bW11
  have two_x_11 := (Two.mk kx0 kx1).keep bW11
  replace hE2 := hE2.keep bW11
  replace hE5 := hE5.keep bW11
  replace hx7 := hx7.keep bW11
  replace hE7 := hE7.keep bW11
  replace hx8 := hx8.keep bW11
  clear kt0 kt1 hzt
  obtain ⟨kt0, kt1⟩ := two_t_11
  have hzt := cell_lt kt0
  clear kx0 kx1 hzx
  obtain ⟨kx0, kx1⟩ := two_x_11
  have hzx := cell_lt kx0
  obtain ⟨ky0, ky1⟩ := kn
  have hzy := cell_lt ky0
  clear eW11 bW11
  refine (num_any _ fn _ hE2 (HG _ q11)).mono ?_
  rintro e11 w9 ⟨rfl, hb9⟩
  have q12 := q11.trans (hb9.mono q11.size)
  have two_t_12 := (Two.mk kt0 kt1).keep hb9
  have two_x_12 := (Two.mk kx0 kx1).keep hb9
  have two_y_12 := (Two.mk ky0 ky1).keep hb9
  replace hE2 := hE2.keep hb9
  replace hE5 := hE5.keep hb9
  replace hx7 := hx7.keep hb9
  replace hE7 := hE7.keep hb9
  replace hx8 := hx8.keep hb9
  clear kt0 kt1 hzt
  obtain ⟨kt0, kt1⟩ := two_t_12
  have hzt := cell_lt kt0
  clear kx0 kx1 hzx
  obtain ⟨kx0, kx1⟩ := two_x_12
  have hzx := cell_lt kx0
  clear ky0 ky1 hzy
  obtain ⟨ky0, ky1⟩ := two_y_12
  have hzy := cell_lt ky0
  clear hb9
  clear hE2
  go_wp2_with fail
  refine (num_any _ dn _ hE5 (HG _ q12)).mono ?_
  rintro e12 w10 ⟨rfl, hb10⟩
  have q13 := q12.trans (hb10.mono q12.size)
  have two_t_13 := (Two.mk kt0 kt1).keep hb10
  have two_x_13 := (Two.mk kx0 kx1).keep hb10
  have two_y_13 := (Two.mk ky0 ky1).keep hb10
  replace hE5 := hE5.keep hb10
  replace hx7 := hx7.keep hb10
  replace hE7 := hE7.keep hb10
  replace hx8 := hx8.keep hb10
  clear kt0 kt1 hzt
  obtain ⟨kt0, kt1⟩ := two_t_13
  have hzt := cell_lt kt0
  clear kx0 kx1 hzx
  obtain ⟨kx0, kx1⟩ := two_x_13
  have hzx := cell_lt kx0
  clear ky0 ky1 hzy
  obtain ⟨ky0, ky1⟩ := two_y_13
  have hzy := cell_lt ky0
  clear hb10
  clear hE5
  go_wp2_with fail
  refine (same_any _ _ Q Qb _ hx7 hx8 hQl).mono ?_
  rintro e13 w11 ⟨rfl, hb11⟩
  have q14 := q13.trans (hb11.mono q13.size)
  have two_t_14 := (Two.mk kt0 kt1).keep hb11
  have two_x_14 := (Two.mk kx0 kx1).keep hb11
  have two_y_14 := (Two.mk ky0 ky1).keep hb11
  replace hx7 := hx7.keep hb11
  replace hE7 := hE7.keep hb11
  replace hx8 := hx8.keep hb11
  clear kt0 kt1 hzt
  obtain ⟨kt0, kt1⟩ := two_t_14
  have hzt := cell_lt kt0
  clear kx0 kx1 hzx
  obtain ⟨kx0, kx1⟩ := two_x_14
  have hzx := cell_lt kx0
  clear ky0 ky1 hzy
  obtain ⟨ky0, ky1⟩ := two_y_14
  have hzy := cell_lt ky0
  clear hb11
  clear hx7 hx8
  go_wp2_with fail
  refine (num_any _ qn _ hE7 (HG _ q14)).mono ?_
  rintro e14 w12 ⟨rfl, hb12⟩
  have q15 := q14.trans (hb12.mono q14.size)
  have two_t_15 := (Two.mk kt0 kt1).keep hb12
  have two_x_15 := (Two.mk kx0 kx1).keep hb12
  have two_y_15 := (Two.mk ky0 ky1).keep hb12
  replace hE7 := hE7.keep hb12
  clear kt0 kt1 hzt
  obtain ⟨kt0, kt1⟩ := two_t_15
  have hzt := cell_lt kt0
  clear kx0 kx1 hzx
  obtain ⟨kx0, kx1⟩ := two_x_15
  have hzx := cell_lt kx0
  clear ky0 ky1 hzy
  obtain ⟨ky0, ky1⟩ := two_y_15
  have hzy := cell_lt ky0
  clear hb12
  clear hE7
  go_wp2_with fail
  refine (cB _ q15).mono ?_
  rintro e15 w13 ⟨rfl, hb13⟩
  have q16 := q15.trans (hb13.mono q15.size)
  have two_t_16 := (Two.mk kt0 kt1).keep hb13
  have two_x_16 := (Two.mk kx0 kx1).keep hb13
  have two_y_16 := (Two.mk ky0 ky1).keep hb13
  clear kt0 kt1 hzt
  obtain ⟨kt0, kt1⟩ := two_t_16
  have hzt := cell_lt kt0
  clear kx0 kx1 hzx
  obtain ⟨kx0, kx1⟩ := two_x_16
  have hzx := cell_lt kx0
  clear ky0 ky1 hzy
  obtain ⟨ky0, ky1⟩ := two_y_16
  have hzy := cell_lt ky0
  clear hb13
  go_wp2_with fail
  refine (cRB _).mono ?_
  rintro e w14 ⟨rfl, rfl⟩
  go_wp2_with fail
  refine (cC _ q16).mono ?_
  rintro e16 w15 ⟨e15, rfl, hE15, hb15⟩
  have q17 := q16.trans (hb15.mono q16.size)
  have two_t_17 := (Two.mk kt0 kt1).keep hb15
  have two_x_17 := (Two.mk kx0 kx1).keep hb15
  have two_y_17 := (Two.mk ky0 ky1).keep hb15
  clear kt0 kt1 hzt
  obtain ⟨kt0, kt1⟩ := two_t_17
  have hzt := cell_lt kt0
  clear kx0 kx1 hzx
  obtain ⟨kx0, kx1⟩ := two_x_17
  have hzx := cell_lt kx0
  clear ky0 ky1 hzy
  obtain ⟨ky0, ky1⟩ := two_y_17
  have hzy := cell_lt ky0
  clear hb15
  go_wp2_with fail
  refine (num_any _ _ _ hE15 (HG _ q17)).mono ?_
  rintro e17 w16 ⟨rfl, hb16⟩
  have q18 := q17.trans (hb16.mono q17.size)
  have two_t_18 := (Two.mk kt0 kt1).keep hb16
  have two_x_18 := (Two.mk kx0 kx1).keep hb16
  have two_y_18 := (Two.mk ky0 ky1).keep hb16
  clear kt0 kt1 hzt
  obtain ⟨kt0, kt1⟩ := two_t_18
  have hzt := cell_lt kt0
  clear kx0 kx1 hzx
  obtain ⟨kx0, kx1⟩ := two_x_18
  have hzx := cell_lt kx0
  clear ky0 ky1 hzy
  obtain ⟨ky0, ky1⟩ := two_y_18
  have hzy := cell_lt ky0
  clear hb16
  clear hE15
  go_wp2_with fail
  refine (cRC _ q18).mono ?_
  rintro e18 w17 ⟨rfl, hb17⟩
  have q19 := q18.trans (hb17.mono q18.size)
  have two_t_19 := (Two.mk kt0 kt1).keep hb17
  have two_x_19 := (Two.mk kx0 kx1).keep hb17
  have two_y_19 := (Two.mk ky0 ky1).keep hb17
  clear kt0 kt1 hzt
  obtain ⟨kt0, kt1⟩ := two_t_19
  have hzt := cell_lt kt0
  clear kx0 kx1 hzx
  obtain ⟨kx0, kx1⟩ := two_x_19
  have hzx := cell_lt kx0
  clear ky0 ky1 hzy
  obtain ⟨ky0, ky1⟩ := two_y_19
  have hzy := cell_lt ky0
  clear hb17
  go_wp2_with fail
  refine (cCd _ q19).mono ?_
  rintro e19 w18 ⟨e18, rfl, hE18, hb18⟩
  have q20 := q19.trans (hb18.mono q19.size)
  have two_t_20 := (Two.mk kt0 kt1).keep hb18
  have two_x_20 := (Two.mk kx0 kx1).keep hb18
  have two_y_20 := (Two.mk ky0 ky1).keep hb18
  clear kt0 kt1 hzt
  obtain ⟨kt0, kt1⟩ := two_t_20
  have hzt := cell_lt kt0
  clear kx0 kx1 hzx
  obtain ⟨kx0, kx1⟩ := two_x_20
  have hzx := cell_lt kx0
  clear ky0 ky1 hzy
  obtain ⟨ky0, ky1⟩ := two_y_20
  have hzy := cell_lt ky0
  clear hb18
  go_wp2_with fail
  refine (num_any _ _ _ hE18 (HG _ q20)).mono ?_
  rintro e20 w19 ⟨rfl, hb19⟩
  have q21 := q20.trans (hb19.mono q20.size)
  have two_t_21 := (Two.mk kt0 kt1).keep hb19
  have two_x_21 := (Two.mk kx0 kx1).keep hb19
  have two_y_21 := (Two.mk ky0 ky1).keep hb19
  clear kt0 kt1 hzt
  obtain ⟨kt0, kt1⟩ := two_t_21
  have hzt := cell_lt kt0
  clear kx0 kx1 hzx
  obtain ⟨kx0, kx1⟩ := two_x_21
  have hzx := cell_lt kx0
  clear ky0 ky1 hzy
  obtain ⟨ky0, ky1⟩ := two_y_21
  have hzy := cell_lt ky0
  clear hb19
  clear hE18
  go_wp2_with fail
  refine (cRCd _ q21).mono ?_
  rintro e21 w20 ⟨rfl, hb20⟩
  have q22 := q21.trans (hb20.mono q21.size)
  have two_t_22 := (Two.mk kt0 kt1).keep hb20
  have two_x_22 := (Two.mk kx0 kx1).keep hb20
  have two_y_22 := (Two.mk ky0 ky1).keep hb20
  clear kt0 kt1 hzt
  obtain ⟨kt0, kt1⟩ := two_t_22
  have hzt := cell_lt kt0
  clear kx0 kx1 hzx
  obtain ⟨kx0, kx1⟩ := two_x_22
  have hzx := cell_lt kx0
  clear ky0 ky1 hzy
  obtain ⟨ky0, ky1⟩ := two_y_22
  have hzy := cell_lt ky0
  clear hb20
  go_wp2_with fail
  refine (cS _ q22).mono ?_
  rintro e22 w21 ⟨rfl, hb21⟩
  have q23 := q22.trans (hb21.mono q22.size)
  have two_t_23 := (Two.mk kt0 kt1).keep hb21
  have two_x_23 := (Two.mk kx0 kx1).keep hb21
  have two_y_23 := (Two.mk ky0 ky1).keep hb21
  clear kt0 kt1 hzt
  obtain ⟨kt0, kt1⟩ := two_t_23
  have hzt := cell_lt kt0
  clear kx0 kx1 hzx
  obtain ⟨kx0, kx1⟩ := two_x_23
  have hzx := cell_lt kx0
  clear ky0 ky1 hzy
  obtain ⟨ky0, ky1⟩ := two_y_23
  have hzy := cell_lt ky0
  clear hb21
  go_wp2
  go_ret
  exact ⟨rfl, q23⟩
end Go.Proofs.YtbopkepjbifhhaaGreatDoor
