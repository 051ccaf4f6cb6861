/- The walk of isthmuslaw14.CoinBack: whatever the trace and the two strings are, it returns true. -/
import Derived.Test.YtbopkepjbifhhaaDoorBackLaw
import Derived.Test.YtbopkepjbifhhaaDoorPath
import Derived.Test.YtbopkepjbifhhaaDoorWays
namespace Go.Proofs.YtbopkepjbifhhaaDoor
open Go.RowKit

set_option maxRecDepth 100000 in
set_option maxHeartbeats 4000000 in
theorem back_ok_err (v : Value) (p : List ByteArray) (b port ch : ByteArray) (w : World) (hv : Strs w v p) (hl : p.length * 16 ≤ 140737488351232) (hs : ∀ s ∈ p, s.size ≤ 9223372036854775807) (hb : b.size ≤ 9223372036854775807)
    (hp : port.size ≤ 9223372036854775807) (hc : ch.size ≤ 9223372036854775807) (hT : U8Tabs w) (hI : (intoF p b port ch).2 = 0) (hF0 : (fullS p b).2 ≠ 0) :
    Calls Tryd.prog 6 #[.agg #[v, .string b], .string port, .string ch] w (TruePost w) := by
  have cG : ∀ W, Below w.heap.size w W → Calls Tryd.prog 14 #[.agg #[v, .string b]] W (TracePost p b W) := fun W h => give_any v p b W (hv.keep h) (by omega)
  have cI : ∀ x W, Below w.heap.size w W → Strs W x p → Calls Tryd.prog 13 #[.agg #[x, .string b], .string port, .string ch] W (WayPost (intoF p b port ch) W) := fun x W h hx => into_any x p b port ch W hx hl hs hb hp hc (Utf8Tabs_below hT h)
  have cU : ∀ x W, Below w.heap.size w W → Strs W x p → Calls Tryd.prog 21 #[.agg #[x, .string b]] W (FullPost p b W) := fun x W h hx => full_any x p b W hx (by omega) hs hb (Utf8Tabs_below hT h)
  have cS : ∀ W, Below w.heap.size w W → Calls Tryd.prog 9 #[] W _ := fun W h => sure_any W (Utf8Tabs_below hT h)
  have hl1 : p.length ≤ 9223372036854775807 := by omega
  obtain ⟨Q, hQ, hQF, hQ8⟩ := back_into hI
  have cF : ∀ x W, Below w.heap.size w W → Strs W x Q → Calls Tryd.prog 16 #[.agg #[x, .string b], .string port, .string ch] W (FromPost (fromF Q port ch) b W) := fun x W h hx => from_any x Q b port ch W hx (by omega) hp hc (Utf8Tabs_below hT h)
  rw [hQ] at cI
  rw [hQF] at cF
  unfold FromPost at cF
  clear hI hQ hQF
  have hfs := full_err hF0
  obtain ⟨⟨fs, fn⟩, hF⟩ : ∃ r, fullS p b = r := ⟨_, rfl⟩
  unfold FullPost at cU
  rw [hF] at cU hF0 hfs
  clear hF
  simp only at hfs
  subst hfs
  unfold TracePost at cG
  unfold WayPost at cI
  simp only at *
  have hv0 := hv
  obtain ⟨A0, c0, rfl, _, _⟩ := hv
  rename Strs _ _ _ => hv
  clear hT hs hb hp hc
  go_enter Tryd.func6, Tryd.ntmps6
  go_wp2_with fail
  obtain ⟨W1, eW1, kn⟩ : ∃ W', (w.alloc (.cells #[.slice A0 p.length c0, .string b] 34)) = W' ∧ Two W' w.heap.size (.slice A0 p.length c0) (.string b) := ⟨_, rfl, two_new _ _ _ _⟩
  have bW1 := below_alloc w (.cells #[.slice A0 p.length c0, .string b] 34)
  rw [eW1] at bW1
  rw [eW1]
  have q1 := bW1
  obtain ⟨kt0, kt1⟩ := kn
  have hzt := cell_lt kt0
  clear eW1 bW1
  refine (cG _ q1).mono ?_
  rintro e1 w1 ⟨x1, rfl, hx1, hb1⟩
  have q2 := q1.trans (hb1.mono q1.size)
  have two_t_2 := (Two.mk kt0 kt1).keep hb1
  clear kt0 kt1 hzt
  obtain ⟨kt0, kt1⟩ := two_t_2
  have hzt := cell_lt kt0
  clear hb1
  obtain ⟨A1, c1, rfl, _, _⟩ := id hx1
  go_wp2_with fail
  refine (cI _ w1 q2 hx1).mono ?_
  rintro e2 w2 ⟨x2, e2, rfl, hx2, hE, hb2⟩
  have q3 := q2.trans (hb2.mono q2.size)
  have two_t_3 := (Two.mk kt0 kt1).keep hb2
  clear kt0 kt1 hzt
  obtain ⟨kt0, kt1⟩ := two_t_3
  have hzt := cell_lt kt0
  clear hb2
  clear hx1
  obtain ⟨A2, c2, rfl, _, _⟩ := id hx2
  obtain rfl := hE.zero
  clear hE
  go_wp2_with fail
  obtain ⟨W4, eW4, kn⟩ : ∃ W', (w2.alloc (.cells #[.slice A2 Q.length c2, .string b] 35)) = W' ∧ Two W' w2.heap.size (.slice A2 Q.length c2) (.string b) := ⟨_, rfl, two_new _ _ _ _⟩
  have bW4 := below_alloc w2 (.cells #[.slice A2 Q.length c2, .string b] 35)
  rw [eW4] at bW4
  rw [eW4]
  have q4 := q3.trans (bW4.mono q3.size)
  have two_t_4 := (Two.mk kt0 kt1).keep bW4
  replace hx2 := hx2.keep bW4
  clear kt0 kt1 hzt
  obtain ⟨kt0, kt1⟩ := two_t_4
  have hzt := cell_lt kt0
  obtain ⟨kx0, kx1⟩ := kn
  have hzx := cell_lt kx0
  clear eW4 bW4
  refine (cF _ _ q4 hx2).mono ?_
  rintro e4 w5 ⟨x5, rfl, hx5, hb5⟩
  have q5 := q4.trans (hb5.mono q4.size)
  have two_t_5 := (Two.mk kt0 kt1).keep hb5
  have two_x_5 := (Two.mk kx0 kx1).keep hb5
  replace hx2 := hx2.keep hb5
  clear kt0 kt1 hzt
  obtain ⟨kt0, kt1⟩ := two_t_5
  have hzt := cell_lt kt0
  clear kx0 kx1 hzx
  obtain ⟨kx0, kx1⟩ := two_x_5
  have hzx := cell_lt kx0
  clear hb5
  obtain ⟨A5, c5, rfl, _, _⟩ := id hx5
  go_wp2_with fail
  obtain ⟨W6, eW6, kn⟩ : ∃ W', (w5.alloc (.cells #[.slice A5 p.length c5, .string b] 35)) = W' ∧ Two W' w5.heap.size (.slice A5 p.length c5) (.string b) := ⟨_, rfl, two_new _ _ _ _⟩
  have bW6 := below_alloc w5 (.cells #[.slice A5 p.length c5, .string b] 35)
  rw [eW6] at bW6
  rw [eW6]
  have q6 := q5.trans (bW6.mono q5.size)
  have two_t_6 := (Two.mk kt0 kt1).keep bW6
  have two_x_6 := (Two.mk kx0 kx1).keep bW6
  replace hx2 := hx2.keep bW6
  replace hx5 := hx5.keep bW6
  clear kt0 kt1 hzt
  obtain ⟨kt0, kt1⟩ := two_t_6
  have hzt := cell_lt kt0
  clear kx0 kx1 hzx
  obtain ⟨kx0, kx1⟩ := two_x_6
  have hzx := cell_lt kx0
  obtain ⟨ky0, ky1⟩ := kn
  have hzy := cell_lt ky0
  clear eW6 bW6
  refine (same_any _ _ p b _ hx5 (hv.keep q6) hl1).mono ?_
  rintro e6 w6 ⟨rfl, hb6⟩
  have q7 := q6.trans (hb6.mono q6.size)
  have two_t_7 := (Two.mk kt0 kt1).keep hb6
  have two_x_7 := (Two.mk kx0 kx1).keep hb6
  have two_y_7 := (Two.mk ky0 ky1).keep hb6
  replace hx2 := hx2.keep hb6
  replace hx5 := hx5.keep hb6
  clear kt0 kt1 hzt
  obtain ⟨kt0, kt1⟩ := two_t_7
  have hzt := cell_lt kt0
  clear kx0 kx1 hzx
  obtain ⟨kx0, kx1⟩ := two_x_7
  have hzx := cell_lt kx0
  clear ky0 ky1 hzy
  obtain ⟨ky0, ky1⟩ := two_y_7
  have hzy := cell_lt ky0
  clear hb6
  clear hx2 hx5
  go_wp2_with fail
  refine (cG _ q7).mono ?_
  rintro e7 w7 ⟨x7, rfl, hx7, hb7⟩
  have q8 := q7.trans (hb7.mono q7.size)
  have two_t_8 := (Two.mk kt0 kt1).keep hb7
  have two_x_8 := (Two.mk kx0 kx1).keep hb7
  have two_y_8 := (Two.mk ky0 ky1).keep hb7
  clear kt0 kt1 hzt
  obtain ⟨kt0, kt1⟩ := two_t_8
  have hzt := cell_lt kt0
  clear kx0 kx1 hzx
  obtain ⟨kx0, kx1⟩ := two_x_8
  have hzx := cell_lt kx0
  clear ky0 ky1 hzy
  obtain ⟨ky0, ky1⟩ := two_y_8
  have hzy := cell_lt ky0
  clear hb7
  obtain ⟨A7, c7, rfl, _, _⟩ := id hx7
  go_wp2_with fail
  refine (cU _ w7 q8 hx7).mono ?_
  rintro e8 w8 ⟨e8, rfl, hE8, hb8⟩
  have q9 := q8.trans (hb8.mono q8.size)
  have two_t_9 := (Two.mk kt0 kt1).keep hb8
  have two_x_9 := (Two.mk kx0 kx1).keep hb8
  have two_y_9 := (Two.mk ky0 ky1).keep hb8
  clear kt0 kt1 hzt
  obtain ⟨kt0, kt1⟩ := two_t_9
  have hzt := cell_lt kt0
  clear kx0 kx1 hzx
  obtain ⟨kx0, kx1⟩ := two_x_9
  have hzx := cell_lt kx0
  clear ky0 ky1 hzy
  obtain ⟨ky0, ky1⟩ := two_y_9
  have hzy := cell_lt ky0
  clear hb8
  clear hx7
  obtain ⟨t8, x8, rfl⟩ := hE8.iface hF0
  clear hE8
  go_wp2_with fail
  refine (cS _ q9).mono ?_
  rintro e9 w9 ⟨rfl, hb9⟩
  have q10 := q9.trans (hb9.mono q9.size)
  have two_t_10 := (Two.mk kt0 kt1).keep hb9
  have two_x_10 := (Two.mk kx0 kx1).keep hb9
  have two_y_10 := (Two.mk ky0 ky1).keep hb9
  clear kt0 kt1 hzt
  obtain ⟨kt0, kt1⟩ := two_t_10
  have hzt := cell_lt kt0
  clear kx0 kx1 hzx
  obtain ⟨kx0, kx1⟩ := two_x_10
  have hzx := cell_lt kx0
  clear ky0 ky1 hzy
  obtain ⟨ky0, ky1⟩ := two_y_10
  have hzy := cell_lt ky0
  clear hb9
  go_wp2
  go_ret
  exact ⟨rfl, q10⟩

set_option maxRecDepth 100000 in
set_option maxHeartbeats 4000000 in
theorem back_ok_none (v : Value) (p : List ByteArray) (b port ch : ByteArray) (w : World) (hv : Strs w v p) (hl : p.length * 16 ≤ 140737488351232) (hs : ∀ s ∈ p, s.size ≤ 9223372036854775807) (hb : b.size ≤ 9223372036854775807)
    (hp : port.size ≤ 9223372036854775807) (hc : ch.size ≤ 9223372036854775807) (hT : U8Tabs w) (hK : ShaTab w) (hM : MaxLenInt w) (hI : (intoF p b port ch).2 = 0) (hF0 : (fullS p b).2 = 0) (hp0 : p.length = 0) :
    Calls Tryd.prog 6 #[.agg #[v, .string b], .string port, .string ch] w (TruePost w) := by
  have cG : ∀ W, Below w.heap.size w W → Calls Tryd.prog 14 #[.agg #[v, .string b]] W (TracePost p b W) := fun W h => give_any v p b W (hv.keep h) (by omega)
  have cI : ∀ x W, Below w.heap.size w W → Strs W x p → Calls Tryd.prog 13 #[.agg #[x, .string b], .string port, .string ch] W (WayPost (intoF p b port ch) W) := fun x W h hx => into_any x p b port ch W hx hl hs hb hp hc (Utf8Tabs_below hT h)
  have cU : ∀ x W, Below w.heap.size w W → Strs W x p → Calls Tryd.prog 21 #[.agg #[x, .string b]] W (FullPost p b W) := fun x W h hx => full_any x p b W hx (by omega) hs hb (Utf8Tabs_below hT h)
  have cS : ∀ W, Below w.heap.size w W → Calls Tryd.prog 9 #[] W _ := fun W h => sure_any W (Utf8Tabs_below hT h)
  have hl1 : p.length ≤ 9223372036854775807 := by omega
  obtain ⟨Q, hQ, hQF, hQ8⟩ := back_into hI
  have cF : ∀ x W, Below w.heap.size w W → Strs W x Q → Calls Tryd.prog 16 #[.agg #[x, .string b], .string port, .string ch] W (FromPost (fromF Q port ch) b W) := fun x W h hx => from_any x Q b port ch W hx (by omega) hp hc (Utf8Tabs_below hT h)
  rw [hQ] at cI
  rw [hQF] at cF
  unfold FromPost at cF
  clear hI hQ hQF
  obtain ⟨ds, hD, hC, hds, hne⟩ := back_denom hF0
  have hfs := full_size hF0
  have hPJ := parse_join hF0
  have cP : ∀ W, Below w.heap.size w W → Calls Tryd.prog 22 #[.string (fullS p b).1] W (WayPost (parseF (fullS p b).1) W) := fun W h => parse_any (fullS p b).1 W (by omega) (Utf8Tabs_below hT h) (hM.keep h)
  have cD : ∀ x W, Below w.heap.size w W → Strs W x p → Calls Tryd.prog 23 #[.agg #[x, .string b]] W (DenomPost p b W) := fun x W h hx => denom_any x p b W hx hl1 hs hb (Utf8Tabs_below hT h) (hK.keep h)
  have cC : ∀ W, Below w.heap.size w W → Calls Tryd.prog 24 #[.string ds] W (CheckPost ds W) := fun W h => check_any ds W (by omega) (Utf8Tabs_below hT h)
  unfold DenomPost at cD
  unfold CheckPost at cC
  unfold FullPost at cU
  rw [hPJ] at cP
  rw [hD] at cD
  rw [hC] at cC
  rw [hF0] at cU
  clear hPJ hD hC hF0 hfs hds
  generalize (fullS p b).1 = fs at *
  have hne2 : (ds.toList == fs.toList) = true := by rw [hne, hp0]; rfl
  have hpi : ¬((0 : Int) < (p.length : Int)) := by omega
  clear hne hp0
  unfold TracePost at cG
  unfold WayPost at cI cP
  simp only at *
  have hv0 := hv
  obtain ⟨A0, c0, rfl, _, _⟩ := hv
  rename Strs _ _ _ => hv
  clear hT hs hb hp hc hK hM
  go_enter Tryd.func6, Tryd.ntmps6
  go_wp2_with fail
  obtain ⟨W1, eW1, kn⟩ : ∃ W', (w.alloc (.cells #[.slice A0 p.length c0, .string b] 34)) = W' ∧ Two W' w.heap.size (.slice A0 p.length c0) (.string b) := ⟨_, rfl, two_new _ _ _ _⟩
  have bW1 := below_alloc w (.cells #[.slice A0 p.length c0, .string b] 34)
  rw [eW1] at bW1
  rw [eW1]
  have q1 := bW1
  obtain ⟨kt0, kt1⟩ := kn
  have hzt := cell_lt kt0
  clear eW1 bW1
  refine (cG _ q1).mono ?_
  rintro e1 w1 ⟨x1, rfl, hx1, hb1⟩
  have q2 := q1.trans (hb1.mono q1.size)
  have two_t_2 := (Two.mk kt0 kt1).keep hb1
  clear kt0 kt1 hzt
  obtain ⟨kt0, kt1⟩ := two_t_2
  have hzt := cell_lt kt0
  clear hb1
  obtain ⟨A1, c1, rfl, _, _⟩ := id hx1
  go_wp2_with fail
  refine (cI _ w1 q2 hx1).mono ?_
  rintro e2 w2 ⟨x2, e2, rfl, hx2, hE, hb2⟩
  have q3 := q2.trans (hb2.mono q2.size)
  have two_t_3 := (Two.mk kt0 kt1).keep hb2
  clear kt0 kt1 hzt
  obtain ⟨kt0, kt1⟩ := two_t_3
  have hzt := cell_lt kt0
  clear hb2
  clear hx1
  obtain ⟨A2, c2, rfl, _, _⟩ := id hx2
  obtain rfl := hE.zero
  clear hE
  go_wp2_with fail
  obtain ⟨W4, eW4, kn⟩ : ∃ W', (w2.alloc (.cells #[.slice A2 Q.length c2, .string b] 35)) = W' ∧ Two W' w2.heap.size (.slice A2 Q.length c2) (.string b) := ⟨_, rfl, two_new _ _ _ _⟩
  have bW4 := below_alloc w2 (.cells #[.slice A2 Q.length c2, .string b] 35)
  rw [eW4] at bW4
  rw [eW4]
  have q4 := q3.trans (bW4.mono q3.size)
  have two_t_4 := (Two.mk kt0 kt1).keep bW4
  replace hx2 := hx2.keep bW4
  clear kt0 kt1 hzt
  obtain ⟨kt0, kt1⟩ := two_t_4
  have hzt := cell_lt kt0
  obtain ⟨kx0, kx1⟩ := kn
  have hzx := cell_lt kx0
  clear eW4 bW4
  refine (cF _ _ q4 hx2).mono ?_
  rintro e4 w5 ⟨x5, rfl, hx5, hb5⟩
  have q5 := q4.trans (hb5.mono q4.size)
  have two_t_5 := (Two.mk kt0 kt1).keep hb5
  have two_x_5 := (Two.mk kx0 kx1).keep hb5
  replace hx2 := hx2.keep hb5
  clear kt0 kt1 hzt
  obtain ⟨kt0, kt1⟩ := two_t_5
  have hzt := cell_lt kt0
  clear kx0 kx1 hzx
  obtain ⟨kx0, kx1⟩ := two_x_5
  have hzx := cell_lt kx0
  clear hb5
  obtain ⟨A5, c5, rfl, _, _⟩ := id hx5
  go_wp2_with fail
  obtain ⟨W6, eW6, kn⟩ : ∃ W', (w5.alloc (.cells #[.slice A5 p.length c5, .string b] 35)) = W' ∧ Two W' w5.heap.size (.slice A5 p.length c5) (.string b) := ⟨_, rfl, two_new _ _ _ _⟩
  have bW6 := below_alloc w5 (.cells #[.slice A5 p.length c5, .string b] 35)
  rw [eW6] at bW6
  rw [eW6]
  have q6 := q5.trans (bW6.mono q5.size)
  have two_t_6 := (Two.mk kt0 kt1).keep bW6
  have two_x_6 := (Two.mk kx0 kx1).keep bW6
  replace hx2 := hx2.keep bW6
  replace hx5 := hx5.keep bW6
  clear kt0 kt1 hzt
  obtain ⟨kt0, kt1⟩ := two_t_6
  have hzt := cell_lt kt0
  clear kx0 kx1 hzx
  obtain ⟨kx0, kx1⟩ := two_x_6
  have hzx := cell_lt kx0
  obtain ⟨ky0, ky1⟩ := kn
  have hzy := cell_lt ky0
  clear eW6 bW6
  refine (same_any _ _ p b _ hx5 (hv.keep q6) hl1).mono ?_
  rintro e6 w6 ⟨rfl, hb6⟩
  have q7 := q6.trans (hb6.mono q6.size)
  have two_t_7 := (Two.mk kt0 kt1).keep hb6
  have two_x_7 := (Two.mk kx0 kx1).keep hb6
  have two_y_7 := (Two.mk ky0 ky1).keep hb6
  replace hx2 := hx2.keep hb6
  replace hx5 := hx5.keep hb6
  clear kt0 kt1 hzt
  obtain ⟨kt0, kt1⟩ := two_t_7
  have hzt := cell_lt kt0
  clear kx0 kx1 hzx
  obtain ⟨kx0, kx1⟩ := two_x_7
  have hzx := cell_lt kx0
  clear ky0 ky1 hzy
  obtain ⟨ky0, ky1⟩ := two_y_7
  have hzy := cell_lt ky0
  clear hb6
  clear hx2 hx5
  go_wp2_with fail
  refine (cG _ q7).mono ?_
  rintro e7 w7 ⟨x7, rfl, hx7, hb7⟩
  have q8 := q7.trans (hb7.mono q7.size)
  have two_t_8 := (Two.mk kt0 kt1).keep hb7
  have two_x_8 := (Two.mk kx0 kx1).keep hb7
  have two_y_8 := (Two.mk ky0 ky1).keep hb7
  clear kt0 kt1 hzt
  obtain ⟨kt0, kt1⟩ := two_t_8
  have hzt := cell_lt kt0
  clear kx0 kx1 hzx
  obtain ⟨kx0, kx1⟩ := two_x_8
  have hzx := cell_lt kx0
  clear ky0 ky1 hzy
  obtain ⟨ky0, ky1⟩ := two_y_8
  have hzy := cell_lt ky0
  clear hb7
  obtain ⟨A7, c7, rfl, _, _⟩ := id hx7
  go_wp2_with fail
  refine (cU _ w7 q8 hx7).mono ?_
  rintro e8 w8 ⟨e8, rfl, hE8, hb8⟩
  have q9 := q8.trans (hb8.mono q8.size)
  have two_t_9 := (Two.mk kt0 kt1).keep hb8
  have two_x_9 := (Two.mk kx0 kx1).keep hb8
  have two_y_9 := (Two.mk ky0 ky1).keep hb8
  clear kt0 kt1 hzt
  obtain ⟨kt0, kt1⟩ := two_t_9
  have hzt := cell_lt kt0
  clear kx0 kx1 hzx
  obtain ⟨kx0, kx1⟩ := two_x_9
  have hzx := cell_lt kx0
  clear ky0 ky1 hzy
  obtain ⟨ky0, ky1⟩ := two_y_9
  have hzy := cell_lt ky0
  clear hb8
  clear hx7
  obtain rfl := hE8.zero
  clear hE8
  go_wp2_with fail
  refine (cP _ q9).mono ?_
  rintro e9 w9 ⟨x9, e9, rfl, hx9, hE9, hb9⟩
  have q10 := q9.trans (hb9.mono q9.size)
  have two_t_10 := (Two.mk kt0 kt1).keep hb9
  have two_x_10 := (Two.mk kx0 kx1).keep hb9
  have two_y_10 := (Two.mk ky0 ky1).keep hb9
  clear kt0 kt1 hzt
  obtain ⟨kt0, kt1⟩ := two_t_10
  have hzt := cell_lt kt0
  clear kx0 kx1 hzx
  obtain ⟨kx0, kx1⟩ := two_x_10
  have hzx := cell_lt kx0
  clear ky0 ky1 hzy
  obtain ⟨ky0, ky1⟩ := two_y_10
  have hzy := cell_lt ky0
  clear hb9
  obtain rfl := hE9.zero
  clear hE9
  obtain ⟨A9, c9, rfl, _, _⟩ := id hx9
  go_wp2_with fail
  obtain ⟨W11, eW11, kn⟩ : ∃ W', (w9.alloc (.cells #[.slice A9 p.length c9, .string b] 35)) = W' ∧ Two W' w9.heap.size (.slice A9 p.length c9) (.string b) := ⟨_, rfl, two_new _ _ _ _⟩
  have bW11 := below_alloc w9 (.cells #[.slice A9 p.length c9, .string b] 35)
  rw [eW11] at bW11
  rw [eW11]
  have q11 := q10.trans (bW11.mono q10.size)
  have two_t_11 := (Two.mk kt0 kt1).keep bW11
  have two_x_11 := (Two.mk kx0 kx1).keep bW11
  have two_y_11 := (Two.mk ky0 ky1).keep bW11
  replace hx9 := hx9.keep bW11
  clear kt0 kt1 hzt
  obtain ⟨kt0, kt1⟩ := two_t_11
  have hzt := cell_lt kt0
  clear kx0 kx1 hzx
  obtain ⟨kx0, kx1⟩ := two_x_11
  have hzx := cell_lt kx0
  clear ky0 ky1 hzy
  obtain ⟨ky0, ky1⟩ := two_y_11
  have hzy := cell_lt ky0
  obtain ⟨kz0, kz1⟩ := kn
  have hzz := cell_lt kz0
  clear eW11 bW11
  refine (cG _ q11).mono ?_
  rintro e11 w10 ⟨x10, rfl, hx10, hb10⟩
  have q12 := q11.trans (hb10.mono q11.size)
  have two_t_12 := (Two.mk kt0 kt1).keep hb10
  have two_x_12 := (Two.mk kx0 kx1).keep hb10
  have two_y_12 := (Two.mk ky0 ky1).keep hb10
  have two_z_12 := (Two.mk kz0 kz1).keep hb10
  replace hx9 := hx9.keep hb10
  clear kt0 kt1 hzt
  obtain ⟨kt0, kt1⟩ := two_t_12
  have hzt := cell_lt kt0
  clear kx0 kx1 hzx
  obtain ⟨kx0, kx1⟩ := two_x_12
  have hzx := cell_lt kx0
  clear ky0 ky1 hzy
  obtain ⟨ky0, ky1⟩ := two_y_12
  have hzy := cell_lt ky0
  clear kz0 kz1 hzz
  obtain ⟨kz0, kz1⟩ := two_z_12
  have hzz := cell_lt kz0
  clear hb10
  obtain ⟨A10, c10, rfl, _, _⟩ := id hx10
  go_wp2_with fail
  refine (cD _ w10 q12 hx10).mono ?_
  rintro e12 w11 ⟨e11, rfl, hE11, hb11⟩
  have q13 := q12.trans (hb11.mono q12.size)
  have two_t_13 := (Two.mk kt0 kt1).keep hb11
  have two_x_13 := (Two.mk kx0 kx1).keep hb11
  have two_y_13 := (Two.mk ky0 ky1).keep hb11
  have two_z_13 := (Two.mk kz0 kz1).keep hb11
  replace hx9 := hx9.keep hb11
  clear kt0 kt1 hzt
  obtain ⟨kt0, kt1⟩ := two_t_13
  have hzt := cell_lt kt0
  clear kx0 kx1 hzx
  obtain ⟨kx0, kx1⟩ := two_x_13
  have hzx := cell_lt kx0
  clear ky0 ky1 hzy
  obtain ⟨ky0, ky1⟩ := two_y_13
  have hzy := cell_lt ky0
  clear kz0 kz1 hzz
  obtain ⟨kz0, kz1⟩ := two_z_13
  have hzz := cell_lt kz0
  clear hb11
  obtain rfl := hE11.zero
  clear hE11 hx10
  go_wp2_with fail
  refine (same_any _ _ p b _ hx9 (hv.keep q13) hl1).mono ?_
  rintro e13 w12 ⟨rfl, hb12⟩
  have q14 := q13.trans (hb12.mono q13.size)
  have two_t_14 := (Two.mk kt0 kt1).keep hb12
  have two_x_14 := (Two.mk kx0 kx1).keep hb12
  have two_y_14 := (Two.mk ky0 ky1).keep hb12
  have two_z_14 := (Two.mk kz0 kz1).keep hb12
  replace hx9 := hx9.keep hb12
  clear kt0 kt1 hzt
  obtain ⟨kt0, kt1⟩ := two_t_14
  have hzt := cell_lt kt0
  clear kx0 kx1 hzx
  obtain ⟨kx0, kx1⟩ := two_x_14
  have hzx := cell_lt kx0
  clear ky0 ky1 hzy
  obtain ⟨ky0, ky1⟩ := two_y_14
  have hzy := cell_lt ky0
  clear kz0 kz1 hzz
  obtain ⟨kz0, kz1⟩ := two_z_14
  have hzz := cell_lt kz0
  clear hb12
  clear hx9
  go_wp2_with fail
  refine (cC _ q14).mono ?_
  rintro e14 w13 ⟨e13, rfl, hE13, hb13⟩
  have q15 := q14.trans (hb13.mono q14.size)
  have two_t_15 := (Two.mk kt0 kt1).keep hb13
  have two_x_15 := (Two.mk kx0 kx1).keep hb13
  have two_y_15 := (Two.mk ky0 ky1).keep hb13
  have two_z_15 := (Two.mk kz0 kz1).keep hb13
  clear kt0 kt1 hzt
  obtain ⟨kt0, kt1⟩ := two_t_15
  have hzt := cell_lt kt0
  clear kx0 kx1 hzx
  obtain ⟨kx0, kx1⟩ := two_x_15
  have hzx := cell_lt kx0
  clear ky0 ky1 hzy
  obtain ⟨ky0, ky1⟩ := two_y_15
  have hzy := cell_lt ky0
  clear kz0 kz1 hzz
  obtain ⟨kz0, kz1⟩ := two_z_15
  have hzz := cell_lt kz0
  clear hb13
  obtain rfl := hE13.zero
  clear hE13
  go_wp2_with fail
  all_goals first | (exfalso; rename_i hpx; exact hpx (List.eq_nil_of_length_eq_zero (by omega))) | skip
  refine (cS _ q15).mono ?_
  rintro e15 w14 ⟨rfl, hb14⟩
  have q16 := q15.trans (hb14.mono q15.size)
  have two_t_16 := (Two.mk kt0 kt1).keep hb14
  have two_x_16 := (Two.mk kx0 kx1).keep hb14
  have two_y_16 := (Two.mk ky0 ky1).keep hb14
  have two_z_16 := (Two.mk kz0 kz1).keep hb14
  clear kt0 kt1 hzt
  obtain ⟨kt0, kt1⟩ := two_t_16
  have hzt := cell_lt kt0
  clear kx0 kx1 hzx
  obtain ⟨kx0, kx1⟩ := two_x_16
  have hzx := cell_lt kx0
  clear ky0 ky1 hzy
  obtain ⟨ky0, ky1⟩ := two_y_16
  have hzy := cell_lt ky0
  clear kz0 kz1 hzz
  obtain ⟨kz0, kz1⟩ := two_z_16
  have hzz := cell_lt kz0
  clear hb14
  go_wp2
  go_ret
  exact ⟨rfl, q16⟩

set_option maxRecDepth 100000 in
set_option maxHeartbeats 4000000 in
theorem back_ok_some (v : Value) (p : List ByteArray) (b port ch : ByteArray) (w : World) (hv : Strs w v p) (hl : p.length * 16 ≤ 140737488351232) (hs : ∀ s ∈ p, s.size ≤ 9223372036854775807) (hb : b.size ≤ 9223372036854775807)
    (hp : port.size ≤ 9223372036854775807) (hc : ch.size ≤ 9223372036854775807) (hT : U8Tabs w) (hK : ShaTab w) (hM : MaxLenInt w) (hI : (intoF p b port ch).2 = 0) (hF0 : (fullS p b).2 = 0) (hp0 : ¬p.length = 0) :
    Calls Tryd.prog 6 #[.agg #[v, .string b], .string port, .string ch] w (TruePost w) := by
  have cG : ∀ W, Below w.heap.size w W → Calls Tryd.prog 14 #[.agg #[v, .string b]] W (TracePost p b W) := fun W h => give_any v p b W (hv.keep h) (by omega)
  have cI : ∀ x W, Below w.heap.size w W → Strs W x p → Calls Tryd.prog 13 #[.agg #[x, .string b], .string port, .string ch] W (WayPost (intoF p b port ch) W) := fun x W h hx => into_any x p b port ch W hx hl hs hb hp hc (Utf8Tabs_below hT h)
  have cU : ∀ x W, Below w.heap.size w W → Strs W x p → Calls Tryd.prog 21 #[.agg #[x, .string b]] W (FullPost p b W) := fun x W h hx => full_any x p b W hx (by omega) hs hb (Utf8Tabs_below hT h)
  have cS : ∀ W, Below w.heap.size w W → Calls Tryd.prog 9 #[] W _ := fun W h => sure_any W (Utf8Tabs_below hT h)
  have hl1 : p.length ≤ 9223372036854775807 := by omega
  obtain ⟨Q, hQ, hQF, hQ8⟩ := back_into hI
  have cF : ∀ x W, Below w.heap.size w W → Strs W x Q → Calls Tryd.prog 16 #[.agg #[x, .string b], .string port, .string ch] W (FromPost (fromF Q port ch) b W) := fun x W h hx => from_any x Q b port ch W hx (by omega) hp hc (Utf8Tabs_below hT h)
  rw [hQ] at cI
  rw [hQF] at cF
  unfold FromPost at cF
  clear hI hQ hQF
  obtain ⟨ds, hD, hC, hds, hne⟩ := back_denom hF0
  have hfs := full_size hF0
  have hPJ := parse_join hF0
  have cP : ∀ W, Below w.heap.size w W → Calls Tryd.prog 22 #[.string (fullS p b).1] W (WayPost (parseF (fullS p b).1) W) := fun W h => parse_any (fullS p b).1 W (by omega) (Utf8Tabs_below hT h) (hM.keep h)
  have cD : ∀ x W, Below w.heap.size w W → Strs W x p → Calls Tryd.prog 23 #[.agg #[x, .string b]] W (DenomPost p b W) := fun x W h hx => denom_any x p b W hx hl1 hs hb (Utf8Tabs_below hT h) (hK.keep h)
  have cC : ∀ W, Below w.heap.size w W → Calls Tryd.prog 24 #[.string ds] W (CheckPost ds W) := fun W h => check_any ds W (by omega) (Utf8Tabs_below hT h)
  unfold DenomPost at cD
  unfold CheckPost at cC
  unfold FullPost at cU
  rw [hPJ] at cP
  rw [hD] at cD
  rw [hC] at cC
  rw [hF0] at cU
  clear hPJ hD hC hF0 hfs hds
  generalize (fullS p b).1 = fs at *
  have hne2 : (ds.toList == fs.toList) = false := by rw [hne]; simpa using hp0
  have hpi : (0 : Int) < (p.length : Int) := by omega
  clear hne hp0
  unfold TracePost at cG
  unfold WayPost at cI cP
  simp only at *
  have hv0 := hv
  obtain ⟨A0, c0, rfl, _, _⟩ := hv
  rename Strs _ _ _ => hv
  clear hT hs hb hp hc hK hM
  go_enter Tryd.func6, Tryd.ntmps6
  go_wp2_with fail
  obtain ⟨W1, eW1, kn⟩ : ∃ W', (w.alloc (.cells #[.slice A0 p.length c0, .string b] 34)) = W' ∧ Two W' w.heap.size (.slice A0 p.length c0) (.string b) := ⟨_, rfl, two_new _ _ _ _⟩
  have bW1 := below_alloc w (.cells #[.slice A0 p.length c0, .string b] 34)
  rw [eW1] at bW1
  rw [eW1]
  have q1 := bW1
  obtain ⟨kt0, kt1⟩ := kn
  have hzt := cell_lt kt0
  clear eW1 bW1
  refine (cG _ q1).mono ?_
  rintro e1 w1 ⟨x1, rfl, hx1, hb1⟩
  have q2 := q1.trans (hb1.mono q1.size)
  have two_t_2 := (Two.mk kt0 kt1).keep hb1
  clear kt0 kt1 hzt
  obtain ⟨kt0, kt1⟩ := two_t_2
  have hzt := cell_lt kt0
  clear hb1
  obtain ⟨A1, c1, rfl, _, _⟩ := id hx1
  go_wp2_with fail
  refine (cI _ w1 q2 hx1).mono ?_
  rintro e2 w2 ⟨x2, e2, rfl, hx2, hE, hb2⟩
  have q3 := q2.trans (hb2.mono q2.size)
  have two_t_3 := (Two.mk kt0 kt1).keep hb2
  clear kt0 kt1 hzt
  obtain ⟨kt0, kt1⟩ := two_t_3
  have hzt := cell_lt kt0
  clear hb2
  clear hx1
  obtain ⟨A2, c2, rfl, _, _⟩ := id hx2
  obtain rfl := hE.zero
  clear hE
  go_wp2_with fail
  obtain ⟨W4, eW4, kn⟩ : ∃ W', (w2.alloc (.cells #[.slice A2 Q.length c2, .string b] 35)) = W' ∧ Two W' w2.heap.size (.slice A2 Q.length c2) (.string b) := ⟨_, rfl, two_new _ _ _ _⟩
  have bW4 := below_alloc w2 (.cells #[.slice A2 Q.length c2, .string b] 35)
  rw [eW4] at bW4
  rw [eW4]
  have q4 := q3.trans (bW4.mono q3.size)
  have two_t_4 := (Two.mk kt0 kt1).keep bW4
  replace hx2 := hx2.keep bW4
  clear kt0 kt1 hzt
  obtain ⟨kt0, kt1⟩ := two_t_4
  have hzt := cell_lt kt0
  obtain ⟨kx0, kx1⟩ := kn
  have hzx := cell_lt kx0
  clear eW4 bW4
  refine (cF _ _ q4 hx2).mono ?_
  rintro e4 w5 ⟨x5, rfl, hx5, hb5⟩
  have q5 := q4.trans (hb5.mono q4.size)
  have two_t_5 := (Two.mk kt0 kt1).keep hb5
  have two_x_5 := (Two.mk kx0 kx1).keep hb5
  replace hx2 := hx2.keep hb5
  clear kt0 kt1 hzt
  obtain ⟨kt0, kt1⟩ := two_t_5
  have hzt := cell_lt kt0
  clear kx0 kx1 hzx
  obtain ⟨kx0, kx1⟩ := two_x_5
  have hzx := cell_lt kx0
  clear hb5
  obtain ⟨A5, c5, rfl, _, _⟩ := id hx5
  go_wp2_with fail
  obtain ⟨W6, eW6, kn⟩ : ∃ W', (w5.alloc (.cells #[.slice A5 p.length c5, .string b] 35)) = W' ∧ Two W' w5.heap.size (.slice A5 p.length c5) (.string b) := ⟨_, rfl, two_new _ _ _ _⟩
  have bW6 := below_alloc w5 (.cells #[.slice A5 p.length c5, .string b] 35)
  rw [eW6] at bW6
  rw [eW6]
  have q6 := q5.trans (bW6.mono q5.size)
  have two_t_6 := (Two.mk kt0 kt1).keep bW6
  have two_x_6 := (Two.mk kx0 kx1).keep bW6
  replace hx2 := hx2.keep bW6
  replace hx5 := hx5.keep bW6
  clear kt0 kt1 hzt
  obtain ⟨kt0, kt1⟩ := two_t_6
  have hzt := cell_lt kt0
  clear kx0 kx1 hzx
  obtain ⟨kx0, kx1⟩ := two_x_6
  have hzx := cell_lt kx0
  obtain ⟨ky0, ky1⟩ := kn
  have hzy := cell_lt ky0
  clear eW6 bW6
  refine (same_any _ _ p b _ hx5 (hv.keep q6) hl1).mono ?_
  rintro e6 w6 ⟨rfl, hb6⟩
  have q7 := q6.trans (hb6.mono q6.size)
  have two_t_7 := (Two.mk kt0 kt1).keep hb6
  have two_x_7 := (Two.mk kx0 kx1).keep hb6
  have two_y_7 := (Two.mk ky0 ky1).keep hb6
  replace hx2 := hx2.keep hb6
  replace hx5 := hx5.keep hb6
  clear kt0 kt1 hzt
  obtain ⟨kt0, kt1⟩ := two_t_7
  have hzt := cell_lt kt0
  clear kx0 kx1 hzx
  obtain ⟨kx0, kx1⟩ := two_x_7
  have hzx := cell_lt kx0
  clear ky0 ky1 hzy
  obtain ⟨ky0, ky1⟩ := two_y_7
  have hzy := cell_lt ky0
  clear hb6
  clear hx2 hx5
  go_wp2_with fail
  refine (cG _ q7).mono ?_
  rintro e7 w7 ⟨x7, rfl, hx7, hb7⟩
  have q8 := q7.trans (hb7.mono q7.size)
  have two_t_8 := (Two.mk kt0 kt1).keep hb7
  have two_x_8 := (Two.mk kx0 kx1).keep hb7
  have two_y_8 := (Two.mk ky0 ky1).keep hb7
  clear kt0 kt1 hzt
  obtain ⟨kt0, kt1⟩ := two_t_8
  have hzt := cell_lt kt0
  clear kx0 kx1 hzx
  obtain ⟨kx0, kx1⟩ := two_x_8
  have hzx := cell_lt kx0
  clear ky0 ky1 hzy
  obtain ⟨ky0, ky1⟩ := two_y_8
  have hzy := cell_lt ky0
  clear hb7
  obtain ⟨A7, c7, rfl, _, _⟩ := id hx7
  go_wp2_with fail
  refine (cU _ w7 q8 hx7).mono ?_
  rintro e8 w8 ⟨e8, rfl, hE8, hb8⟩
  have q9 := q8.trans (hb8.mono q8.size)
  have two_t_9 := (Two.mk kt0 kt1).keep hb8
  have two_x_9 := (Two.mk kx0 kx1).keep hb8
  have two_y_9 := (Two.mk ky0 ky1).keep hb8
  clear kt0 kt1 hzt
  obtain ⟨kt0, kt1⟩ := two_t_9
  have hzt := cell_lt kt0
  clear kx0 kx1 hzx
  obtain ⟨kx0, kx1⟩ := two_x_9
  have hzx := cell_lt kx0
  clear ky0 ky1 hzy
  obtain ⟨ky0, ky1⟩ := two_y_9
  have hzy := cell_lt ky0
  clear hb8
  clear hx7
  obtain rfl := hE8.zero
  clear hE8
  go_wp2_with fail
  refine (cP _ q9).mono ?_
  rintro e9 w9 ⟨x9, e9, rfl, hx9, hE9, hb9⟩
  have q10 := q9.trans (hb9.mono q9.size)
  have two_t_10 := (Two.mk kt0 kt1).keep hb9
  have two_x_10 := (Two.mk kx0 kx1).keep hb9
  have two_y_10 := (Two.mk ky0 ky1).keep hb9
  clear kt0 kt1 hzt
  obtain ⟨kt0, kt1⟩ := two_t_10
  have hzt := cell_lt kt0
  clear kx0 kx1 hzx
  obtain ⟨kx0, kx1⟩ := two_x_10
  have hzx := cell_lt kx0
  clear ky0 ky1 hzy
  obtain ⟨ky0, ky1⟩ := two_y_10
  have hzy := cell_lt ky0
  clear hb9
  obtain rfl := hE9.zero
  clear hE9
  obtain ⟨A9, c9, rfl, _, _⟩ := id hx9
  go_wp2_with fail
  obtain ⟨W11, eW11, kn⟩ : ∃ W', (w9.alloc (.cells #[.slice A9 p.length c9, .string b] 35)) = W' ∧ Two W' w9.heap.size (.slice A9 p.length c9) (.string b) := ⟨_, rfl, two_new _ _ _ _⟩
  have bW11 := below_alloc w9 (.cells #[.slice A9 p.length c9, .string b] 35)
  rw [eW11] at bW11
  rw [eW11]
  have q11 := q10.trans (bW11.mono q10.size)
  have two_t_11 := (Two.mk kt0 kt1).keep bW11
  have two_x_11 := (Two.mk kx0 kx1).keep bW11
  have two_y_11 := (Two.mk ky0 ky1).keep bW11
  replace hx9 := hx9.keep bW11
  clear kt0 kt1 hzt
  obtain ⟨kt0, kt1⟩ := two_t_11
  have hzt := cell_lt kt0
  clear kx0 kx1 hzx
  obtain ⟨kx0, kx1⟩ := two_x_11
  have hzx := cell_lt kx0
  clear ky0 ky1 hzy
  obtain ⟨ky0, ky1⟩ := two_y_11
  have hzy := cell_lt ky0
  obtain ⟨kz0, kz1⟩ := kn
  have hzz := cell_lt kz0
  clear eW11 bW11
  refine (cG _ q11).mono ?_
  rintro e11 w10 ⟨x10, rfl, hx10, hb10⟩
  have q12 := q11.trans (hb10.mono q11.size)
  have two_t_12 := (Two.mk kt0 kt1).keep hb10
  have two_x_12 := (Two.mk kx0 kx1).keep hb10
  have two_y_12 := (Two.mk ky0 ky1).keep hb10
  have two_z_12 := (Two.mk kz0 kz1).keep hb10
  replace hx9 := hx9.keep hb10
  clear kt0 kt1 hzt
  obtain ⟨kt0, kt1⟩ := two_t_12
  have hzt := cell_lt kt0
  clear kx0 kx1 hzx
  obtain ⟨kx0, kx1⟩ := two_x_12
  have hzx := cell_lt kx0
  clear ky0 ky1 hzy
  obtain ⟨ky0, ky1⟩ := two_y_12
  have hzy := cell_lt ky0
  clear kz0 kz1 hzz
  obtain ⟨kz0, kz1⟩ := two_z_12
  have hzz := cell_lt kz0
  clear hb10
  obtain ⟨A10, c10, rfl, _, _⟩ := id hx10
  go_wp2_with fail
  refine (cD _ w10 q12 hx10).mono ?_
  rintro e12 w11 ⟨e11, rfl, hE11, hb11⟩
  have q13 := q12.trans (hb11.mono q12.size)
  have two_t_13 := (Two.mk kt0 kt1).keep hb11
  have two_x_13 := (Two.mk kx0 kx1).keep hb11
  have two_y_13 := (Two.mk ky0 ky1).keep hb11
  have two_z_13 := (Two.mk kz0 kz1).keep hb11
  replace hx9 := hx9.keep hb11
  clear kt0 kt1 hzt
  obtain ⟨kt0, kt1⟩ := two_t_13
  have hzt := cell_lt kt0
  clear kx0 kx1 hzx
  obtain ⟨kx0, kx1⟩ := two_x_13
  have hzx := cell_lt kx0
  clear ky0 ky1 hzy
  obtain ⟨ky0, ky1⟩ := two_y_13
  have hzy := cell_lt ky0
  clear kz0 kz1 hzz
  obtain ⟨kz0, kz1⟩ := two_z_13
  have hzz := cell_lt kz0
  clear hb11
  obtain rfl := hE11.zero
  clear hE11 hx10
  go_wp2_with fail
  refine (same_any _ _ p b _ hx9 (hv.keep q13) hl1).mono ?_
  rintro e13 w12 ⟨rfl, hb12⟩
  have q14 := q13.trans (hb12.mono q13.size)
  have two_t_14 := (Two.mk kt0 kt1).keep hb12
  have two_x_14 := (Two.mk kx0 kx1).keep hb12
  have two_y_14 := (Two.mk ky0 ky1).keep hb12
  have two_z_14 := (Two.mk kz0 kz1).keep hb12
  replace hx9 := hx9.keep hb12
  clear kt0 kt1 hzt
  obtain ⟨kt0, kt1⟩ := two_t_14
  have hzt := cell_lt kt0
  clear kx0 kx1 hzx
  obtain ⟨kx0, kx1⟩ := two_x_14
  have hzx := cell_lt kx0
  clear ky0 ky1 hzy
  obtain ⟨ky0, ky1⟩ := two_y_14
  have hzy := cell_lt ky0
  clear kz0 kz1 hzz
  obtain ⟨kz0, kz1⟩ := two_z_14
  have hzz := cell_lt kz0
  clear hb12
  clear hx9
  go_wp2_with fail
  refine (cC _ q14).mono ?_
  rintro e14 w13 ⟨e13, rfl, hE13, hb13⟩
  have q15 := q14.trans (hb13.mono q14.size)
  have two_t_15 := (Two.mk kt0 kt1).keep hb13
  have two_x_15 := (Two.mk kx0 kx1).keep hb13
  have two_y_15 := (Two.mk ky0 ky1).keep hb13
  have two_z_15 := (Two.mk kz0 kz1).keep hb13
  clear kt0 kt1 hzt
  obtain ⟨kt0, kt1⟩ := two_t_15
  have hzt := cell_lt kt0
  clear kx0 kx1 hzx
  obtain ⟨kx0, kx1⟩ := two_x_15
  have hzx := cell_lt kx0
  clear ky0 ky1 hzy
  obtain ⟨ky0, ky1⟩ := two_y_15
  have hzy := cell_lt ky0
  clear kz0 kz1 hzz
  obtain ⟨kz0, kz1⟩ := two_z_15
  have hzz := cell_lt kz0
  clear hb13
  obtain rfl := hE13.zero
  clear hE13
  go_wp2_with fail
  refine (cS _ q15).mono ?_
  rintro e15 w14 ⟨rfl, hb14⟩
  have q16 := q15.trans (hb14.mono q15.size)
  have two_t_16 := (Two.mk kt0 kt1).keep hb14
  have two_x_16 := (Two.mk kx0 kx1).keep hb14
  have two_y_16 := (Two.mk ky0 ky1).keep hb14
  have two_z_16 := (Two.mk kz0 kz1).keep hb14
  clear kt0 kt1 hzt
  obtain ⟨kt0, kt1⟩ := two_t_16
  have hzt := cell_lt kt0
  clear kx0 kx1 hzx
  obtain ⟨kx0, kx1⟩ := two_x_16
  have hzx := cell_lt kx0
  clear ky0 ky1 hzy
  obtain ⟨ky0, ky1⟩ := two_y_16
  have hzy := cell_lt ky0
  clear kz0 kz1 hzz
  obtain ⟨kz0, kz1⟩ := two_z_16
  have hzz := cell_lt kz0
  clear hb14
  go_wp2
  go_ret
  exact ⟨rfl, q16⟩

set_option maxRecDepth 100000 in
set_option maxHeartbeats 4000000 in
theorem back_no_err (v : Value) (p : List ByteArray) (b port ch : ByteArray) (w : World) (hv : Strs w v p) (hl : p.length * 16 ≤ 140737488351232) (hs : ∀ s ∈ p, s.size ≤ 9223372036854775807) (hb : b.size ≤ 9223372036854775807)
    (hp : port.size ≤ 9223372036854775807) (hc : ch.size ≤ 9223372036854775807) (hT : U8Tabs w) (hI0 : (intoF p b port ch).2 ≠ 0) (hF0 : (fullS p b).2 ≠ 0) :
    Calls Tryd.prog 6 #[.agg #[v, .string b], .string port, .string ch] w (TruePost w) := by
  have cG : ∀ W, Below w.heap.size w W → Calls Tryd.prog 14 #[.agg #[v, .string b]] W (TracePost p b W) := fun W h => give_any v p b W (hv.keep h) (by omega)
  have cI : ∀ x W, Below w.heap.size w W → Strs W x p → Calls Tryd.prog 13 #[.agg #[x, .string b], .string port, .string ch] W (WayPost (intoF p b port ch) W) := fun x W h hx => into_any x p b port ch W hx hl hs hb hp hc (Utf8Tabs_below hT h)
  have cU : ∀ x W, Below w.heap.size w W → Strs W x p → Calls Tryd.prog 21 #[.agg #[x, .string b]] W (FullPost p b W) := fun x W h hx => full_any x p b W hx (by omega) hs hb (Utf8Tabs_below hT h)
  have cS : ∀ W, Below w.heap.size w W → Calls Tryd.prog 9 #[] W _ := fun W h => sure_any W (Utf8Tabs_below hT h)
  have hl1 : p.length ≤ 9223372036854775807 := by omega
  obtain ⟨⟨⟨Q, Qb⟩, In⟩, hQ⟩ : ∃ r, intoF p b port ch = r := ⟨_, rfl⟩
  rw [hQ] at cI hI0
  clear hQ
  have hfs := full_err hF0
  obtain ⟨⟨fs, fn⟩, hF⟩ : ∃ r, fullS p b = r := ⟨_, rfl⟩
  unfold FullPost at cU
  rw [hF] at cU hF0 hfs
  clear hF
  simp only at hfs
  subst hfs
  unfold TracePost at cG
  unfold WayPost at cI
  simp only at *
  have hv0 := hv
  obtain ⟨A0, c0, rfl, _, _⟩ := hv
  rename Strs _ _ _ => hv
  clear hT hs hb hp hc
  go_enter Tryd.func6, Tryd.ntmps6
  go_wp2_with fail
  obtain ⟨W1, eW1, kn⟩ : ∃ W', (w.alloc (.cells #[.slice A0 p.length c0, .string b] 34)) = W' ∧ Two W' w.heap.size (.slice A0 p.length c0) (.string b) := ⟨_, rfl, two_new _ _ _ _⟩
  have bW1 := below_alloc w (.cells #[.slice A0 p.length c0, .string b] 34)
  rw [eW1] at bW1
  rw [eW1]
  have q1 := bW1
  obtain ⟨kt0, kt1⟩ := kn
  have hzt := cell_lt kt0
  clear eW1 bW1
  refine (cG _ q1).mono ?_
  rintro e1 w1 ⟨x1, rfl, hx1, hb1⟩
  have q2 := q1.trans (hb1.mono q1.size)
  have two_t_2 := (Two.mk kt0 kt1).keep hb1
  clear kt0 kt1 hzt
  obtain ⟨kt0, kt1⟩ := two_t_2
  have hzt := cell_lt kt0
  clear hb1
  obtain ⟨A1, c1, rfl, _, _⟩ := id hx1
  go_wp2_with fail
  refine (cI _ w1 q2 hx1).mono ?_
  rintro e2 w2 ⟨x2, e2, rfl, hx2, hE, hb2⟩
  have q3 := q2.trans (hb2.mono q2.size)
  have two_t_3 := (Two.mk kt0 kt1).keep hb2
  clear kt0 kt1 hzt
  obtain ⟨kt0, kt1⟩ := two_t_3
  have hzt := cell_lt kt0
  clear hb2
  clear hx1
  obtain ⟨A2, c2, rfl, _, _⟩ := id hx2
  obtain ⟨t2, x2', rfl⟩ := hE.iface hI0
  clear hE
  go_wp2_with fail
  obtain ⟨W4, eW4, kn⟩ : ∃ W', (w2.alloc (.cells #[.slice A2 Q.length c2, .string Qb] 35)) = W' ∧ Two W' w2.heap.size (.slice A2 Q.length c2) (.string Qb) := ⟨_, rfl, two_new _ _ _ _⟩
  have bW4 := below_alloc w2 (.cells #[.slice A2 Q.length c2, .string Qb] 35)
  rw [eW4] at bW4
  rw [eW4]
  have q4 := q3.trans (bW4.mono q3.size)
  have two_t_4 := (Two.mk kt0 kt1).keep bW4
  replace hx2 := hx2.keep bW4
  clear kt0 kt1 hzt
  obtain ⟨kt0, kt1⟩ := two_t_4
  have hzt := cell_lt kt0
  obtain ⟨kx0, kx1⟩ := kn
  have hzx := cell_lt kx0
  clear eW4 bW4
  clear hx2
  go_wp2_with fail
  refine (cG _ q4).mono ?_
  rintro e4 w7 ⟨x7, rfl, hx7, hb7⟩
  have q5 := q4.trans (hb7.mono q4.size)
  have two_t_5 := (Two.mk kt0 kt1).keep hb7
  have two_x_5 := (Two.mk kx0 kx1).keep hb7
  clear kt0 kt1 hzt
  obtain ⟨kt0, kt1⟩ := two_t_5
  have hzt := cell_lt kt0
  clear kx0 kx1 hzx
  obtain ⟨kx0, kx1⟩ := two_x_5
  have hzx := cell_lt kx0
  clear hb7
  obtain ⟨A7, c7, rfl, _, _⟩ := id hx7
  go_wp2_with fail
  refine (cU _ w7 q5 hx7).mono ?_
  rintro e5 w8 ⟨e8, rfl, hE8, hb8⟩
  have q6 := q5.trans (hb8.mono q5.size)
  have two_t_6 := (Two.mk kt0 kt1).keep hb8
  have two_x_6 := (Two.mk kx0 kx1).keep hb8
  clear kt0 kt1 hzt
  obtain ⟨kt0, kt1⟩ := two_t_6
  have hzt := cell_lt kt0
  clear kx0 kx1 hzx
  obtain ⟨kx0, kx1⟩ := two_x_6
  have hzx := cell_lt kx0
  clear hb8
  clear hx7
  obtain ⟨t8, x8, rfl⟩ := hE8.iface hF0
  clear hE8
  go_wp2_with fail
  refine (cS _ q6).mono ?_
  rintro e6 w9 ⟨rfl, hb9⟩
  have q7 := q6.trans (hb9.mono q6.size)
  have two_t_7 := (Two.mk kt0 kt1).keep hb9
  have two_x_7 := (Two.mk kx0 kx1).keep hb9
  clear kt0 kt1 hzt
  obtain ⟨kt0, kt1⟩ := two_t_7
  have hzt := cell_lt kt0
  clear kx0 kx1 hzx
  obtain ⟨kx0, kx1⟩ := two_x_7
  have hzx := cell_lt kx0
  clear hb9
  go_wp2
  go_ret
  exact ⟨rfl, q7⟩

set_option maxRecDepth 100000 in
set_option maxHeartbeats 4000000 in
theorem back_no_none (v : Value) (p : List ByteArray) (b port ch : ByteArray) (w : World) (hv : Strs w v p) (hl : p.length * 16 ≤ 140737488351232) (hs : ∀ s ∈ p, s.size ≤ 9223372036854775807) (hb : b.size ≤ 9223372036854775807)
    (hp : port.size ≤ 9223372036854775807) (hc : ch.size ≤ 9223372036854775807) (hT : U8Tabs w) (hK : ShaTab w) (hM : MaxLenInt w) (hI0 : (intoF p b port ch).2 ≠ 0) (hF0 : (fullS p b).2 = 0) (hp0 : p.length = 0) :
    Calls Tryd.prog 6 #[.agg #[v, .string b], .string port, .string ch] w (TruePost w) := by
  have cG : ∀ W, Below w.heap.size w W → Calls Tryd.prog 14 #[.agg #[v, .string b]] W (TracePost p b W) := fun W h => give_any v p b W (hv.keep h) (by omega)
  have cI : ∀ x W, Below w.heap.size w W → Strs W x p → Calls Tryd.prog 13 #[.agg #[x, .string b], .string port, .string ch] W (WayPost (intoF p b port ch) W) := fun x W h hx => into_any x p b port ch W hx hl hs hb hp hc (Utf8Tabs_below hT h)
  have cU : ∀ x W, Below w.heap.size w W → Strs W x p → Calls Tryd.prog 21 #[.agg #[x, .string b]] W (FullPost p b W) := fun x W h hx => full_any x p b W hx (by omega) hs hb (Utf8Tabs_below hT h)
  have cS : ∀ W, Below w.heap.size w W → Calls Tryd.prog 9 #[] W _ := fun W h => sure_any W (Utf8Tabs_below hT h)
  have hl1 : p.length ≤ 9223372036854775807 := by omega
  obtain ⟨⟨⟨Q, Qb⟩, In⟩, hQ⟩ : ∃ r, intoF p b port ch = r := ⟨_, rfl⟩
  rw [hQ] at cI hI0
  clear hQ
  obtain ⟨ds, hD, hC, hds, hne⟩ := back_denom hF0
  have hfs := full_size hF0
  have hPJ := parse_join hF0
  have cP : ∀ W, Below w.heap.size w W → Calls Tryd.prog 22 #[.string (fullS p b).1] W (WayPost (parseF (fullS p b).1) W) := fun W h => parse_any (fullS p b).1 W (by omega) (Utf8Tabs_below hT h) (hM.keep h)
  have cD : ∀ x W, Below w.heap.size w W → Strs W x p → Calls Tryd.prog 23 #[.agg #[x, .string b]] W (DenomPost p b W) := fun x W h hx => denom_any x p b W hx hl1 hs hb (Utf8Tabs_below hT h) (hK.keep h)
  have cC : ∀ W, Below w.heap.size w W → Calls Tryd.prog 24 #[.string ds] W (CheckPost ds W) := fun W h => check_any ds W (by omega) (Utf8Tabs_below hT h)
  unfold DenomPost at cD
  unfold CheckPost at cC
  unfold FullPost at cU
  rw [hPJ] at cP
  rw [hD] at cD
  rw [hC] at cC
  rw [hF0] at cU
  clear hPJ hD hC hF0 hfs hds
  generalize (fullS p b).1 = fs at *
  have hne2 : (ds.toList == fs.toList) = true := by rw [hne, hp0]; rfl
  have hpi : ¬((0 : Int) < (p.length : Int)) := by omega
  clear hne hp0
  unfold TracePost at cG
  unfold WayPost at cI cP
  simp only at *
  have hv0 := hv
  obtain ⟨A0, c0, rfl, _, _⟩ := hv
  rename Strs _ _ _ => hv
  clear hT hs hb hp hc hK hM
  go_enter Tryd.func6, Tryd.ntmps6
  go_wp2_with fail
  obtain ⟨W1, eW1, kn⟩ : ∃ W', (w.alloc (.cells #[.slice A0 p.length c0, .string b] 34)) = W' ∧ Two W' w.heap.size (.slice A0 p.length c0) (.string b) := ⟨_, rfl, two_new _ _ _ _⟩
  have bW1 := below_alloc w (.cells #[.slice A0 p.length c0, .string b] 34)
  rw [eW1] at bW1
  rw [eW1]
  have q1 := bW1
  obtain ⟨kt0, kt1⟩ := kn
  have hzt := cell_lt kt0
  clear eW1 bW1
  refine (cG _ q1).mono ?_
  rintro e1 w1 ⟨x1, rfl, hx1, hb1⟩
  have q2 := q1.trans (hb1.mono q1.size)
  have two_t_2 := (Two.mk kt0 kt1).keep hb1
  clear kt0 kt1 hzt
  obtain ⟨kt0, kt1⟩ := two_t_2
  have hzt := cell_lt kt0
  clear hb1
  obtain ⟨A1, c1, rfl, _, _⟩ := id hx1
  go_wp2_with fail
  refine (cI _ w1 q2 hx1).mono ?_
  rintro e2 w2 ⟨x2, e2, rfl, hx2, hE, hb2⟩
  have q3 := q2.trans (hb2.mono q2.size)
  have two_t_3 := (Two.mk kt0 kt1).keep hb2
  clear kt0 kt1 hzt
  obtain ⟨kt0, kt1⟩ := two_t_3
  have hzt := cell_lt kt0
  clear hb2
  clear hx1
  obtain ⟨A2, c2, rfl, _, _⟩ := id hx2
  obtain ⟨t2, x2', rfl⟩ := hE.iface hI0
  clear hE
  go_wp2_with fail
  obtain ⟨W4, eW4, kn⟩ : ∃ W', (w2.alloc (.cells #[.slice A2 Q.length c2, .string Qb] 35)) = W' ∧ Two W' w2.heap.size (.slice A2 Q.length c2) (.string Qb) := ⟨_, rfl, two_new _ _ _ _⟩
  have bW4 := below_alloc w2 (.cells #[.slice A2 Q.length c2, .string Qb] 35)
  rw [eW4] at bW4
  rw [eW4]
  have q4 := q3.trans (bW4.mono q3.size)
  have two_t_4 := (Two.mk kt0 kt1).keep bW4
  replace hx2 := hx2.keep bW4
  clear kt0 kt1 hzt
  obtain ⟨kt0, kt1⟩ := two_t_4
  have hzt := cell_lt kt0
  obtain ⟨kx0, kx1⟩ := kn
  have hzx := cell_lt kx0
  clear eW4 bW4
  clear hx2
  go_wp2_with fail
  refine (cG _ q4).mono ?_
  rintro e4 w7 ⟨x7, rfl, hx7, hb7⟩
  have q5 := q4.trans (hb7.mono q4.size)
  have two_t_5 := (Two.mk kt0 kt1).keep hb7
  have two_x_5 := (Two.mk kx0 kx1).keep hb7
  clear kt0 kt1 hzt
  obtain ⟨kt0, kt1⟩ := two_t_5
  have hzt := cell_lt kt0
  clear kx0 kx1 hzx
  obtain ⟨kx0, kx1⟩ := two_x_5
  have hzx := cell_lt kx0
  clear hb7
  obtain ⟨A7, c7, rfl, _, _⟩ := id hx7
  go_wp2_with fail
  refine (cU _ w7 q5 hx7).mono ?_
  rintro e5 w8 ⟨e8, rfl, hE8, hb8⟩
  have q6 := q5.trans (hb8.mono q5.size)
  have two_t_6 := (Two.mk kt0 kt1).keep hb8
  have two_x_6 := (Two.mk kx0 kx1).keep hb8
  clear kt0 kt1 hzt
  obtain ⟨kt0, kt1⟩ := two_t_6
  have hzt := cell_lt kt0
  clear kx0 kx1 hzx
  obtain ⟨kx0, kx1⟩ := two_x_6
  have hzx := cell_lt kx0
  clear hb8
  clear hx7
  obtain rfl := hE8.zero
  clear hE8
  go_wp2_with fail
  refine (cP _ q6).mono ?_
  rintro e6 w9 ⟨x9, e9, rfl, hx9, hE9, hb9⟩
  have q7 := q6.trans (hb9.mono q6.size)
  have two_t_7 := (Two.mk kt0 kt1).keep hb9
  have two_x_7 := (Two.mk kx0 kx1).keep hb9
  clear kt0 kt1 hzt
  obtain ⟨kt0, kt1⟩ := two_t_7
  have hzt := cell_lt kt0
  clear kx0 kx1 hzx
  obtain ⟨kx0, kx1⟩ := two_x_7
  have hzx := cell_lt kx0
  clear hb9
  obtain rfl := hE9.zero
  clear hE9
  obtain ⟨A9, c9, rfl, _, _⟩ := id hx9
  go_wp2_with fail
  obtain ⟨W8, eW8, kn⟩ : ∃ W', (w9.alloc (.cells #[.slice A9 p.length c9, .string b] 35)) = W' ∧ Two W' w9.heap.size (.slice A9 p.length c9) (.string b) := ⟨_, rfl, two_new _ _ _ _⟩
  have bW8 := below_alloc w9 (.cells #[.slice A9 p.length c9, .string b] 35)
  rw [eW8] at bW8
  rw [eW8]
  have q8 := q7.trans (bW8.mono q7.size)
  have two_t_8 := (Two.mk kt0 kt1).keep bW8
  have two_x_8 := (Two.mk kx0 kx1).keep bW8
  replace hx9 := hx9.keep bW8
  clear kt0 kt1 hzt
  obtain ⟨kt0, kt1⟩ := two_t_8
  have hzt := cell_lt kt0
  clear kx0 kx1 hzx
  obtain ⟨kx0, kx1⟩ := two_x_8
  have hzx := cell_lt kx0
  obtain ⟨kz0, kz1⟩ := kn
  have hzz := cell_lt kz0
  clear eW8 bW8
  refine (cG _ q8).mono ?_
  rintro e8 w10 ⟨x10, rfl, hx10, hb10⟩
  have q9 := q8.trans (hb10.mono q8.size)
  have two_t_9 := (Two.mk kt0 kt1).keep hb10
  have two_x_9 := (Two.mk kx0 kx1).keep hb10
  have two_z_9 := (Two.mk kz0 kz1).keep hb10
  replace hx9 := hx9.keep hb10
  clear kt0 kt1 hzt
  obtain ⟨kt0, kt1⟩ := two_t_9
  have hzt := cell_lt kt0
  clear kx0 kx1 hzx
  obtain ⟨kx0, kx1⟩ := two_x_9
  have hzx := cell_lt kx0
  clear kz0 kz1 hzz
  obtain ⟨kz0, kz1⟩ := two_z_9
  have hzz := cell_lt kz0
  clear hb10
  obtain ⟨A10, c10, rfl, _, _⟩ := id hx10
  go_wp2_with fail
  refine (cD _ w10 q9 hx10).mono ?_
  rintro e9 w11 ⟨e11, rfl, hE11, hb11⟩
  have q10 := q9.trans (hb11.mono q9.size)
  have two_t_10 := (Two.mk kt0 kt1).keep hb11
  have two_x_10 := (Two.mk kx0 kx1).keep hb11
  have two_z_10 := (Two.mk kz0 kz1).keep hb11
  replace hx9 := hx9.keep hb11
  clear kt0 kt1 hzt
  obtain ⟨kt0, kt1⟩ := two_t_10
  have hzt := cell_lt kt0
  clear kx0 kx1 hzx
  obtain ⟨kx0, kx1⟩ := two_x_10
  have hzx := cell_lt kx0
  clear kz0 kz1 hzz
  obtain ⟨kz0, kz1⟩ := two_z_10
  have hzz := cell_lt kz0
  clear hb11
  obtain rfl := hE11.zero
  clear hE11 hx10
  go_wp2_with fail
  refine (same_any _ _ p b _ hx9 (hv.keep q10) hl1).mono ?_
  rintro e10 w12 ⟨rfl, hb12⟩
  have q11 := q10.trans (hb12.mono q10.size)
  have two_t_11 := (Two.mk kt0 kt1).keep hb12
  have two_x_11 := (Two.mk kx0 kx1).keep hb12
  have two_z_11 := (Two.mk kz0 kz1).keep hb12
  replace hx9 := hx9.keep hb12
  clear kt0 kt1 hzt
  obtain ⟨kt0, kt1⟩ := two_t_11
  have hzt := cell_lt kt0
  clear kx0 kx1 hzx
  obtain ⟨kx0, kx1⟩ := two_x_11
  have hzx := cell_lt kx0
  clear kz0 kz1 hzz
  obtain ⟨kz0, kz1⟩ := two_z_11
  have hzz := cell_lt kz0
  clear hb12
  clear hx9
  go_wp2_with fail
  refine (cC _ q11).mono ?_
  rintro e11 w13 ⟨e13, rfl, hE13, hb13⟩
  have q12 := q11.trans (hb13.mono q11.size)
  have two_t_12 := (Two.mk kt0 kt1).keep hb13
  have two_x_12 := (Two.mk kx0 kx1).keep hb13
  have two_z_12 := (Two.mk kz0 kz1).keep hb13
  clear kt0 kt1 hzt
  obtain ⟨kt0, kt1⟩ := two_t_12
  have hzt := cell_lt kt0
  clear kx0 kx1 hzx
  obtain ⟨kx0, kx1⟩ := two_x_12
  have hzx := cell_lt kx0
  clear kz0 kz1 hzz
  obtain ⟨kz0, kz1⟩ := two_z_12
  have hzz := cell_lt kz0
  clear hb13
  obtain rfl := hE13.zero
  clear hE13
  go_wp2_with fail
  all_goals first | (exfalso; rename_i hpx; exact hpx (List.eq_nil_of_length_eq_zero (by omega))) | skip
  refine (cS _ q12).mono ?_
  rintro e12 w14 ⟨rfl, hb14⟩
  have q13 := q12.trans (hb14.mono q12.size)
  have two_t_13 := (Two.mk kt0 kt1).keep hb14
  have two_x_13 := (Two.mk kx0 kx1).keep hb14
  have two_z_13 := (Two.mk kz0 kz1).keep hb14
  clear kt0 kt1 hzt
  obtain ⟨kt0, kt1⟩ := two_t_13
  have hzt := cell_lt kt0
  clear kx0 kx1 hzx
  obtain ⟨kx0, kx1⟩ := two_x_13
  have hzx := cell_lt kx0
  clear kz0 kz1 hzz
  obtain ⟨kz0, kz1⟩ := two_z_13
  have hzz := cell_lt kz0
  clear hb14
  go_wp2
  go_ret
  exact ⟨rfl, q13⟩

set_option maxRecDepth 100000 in
set_option maxHeartbeats 4000000 in
theorem back_no_some (v : Value) (p : List ByteArray) (b port ch : ByteArray) (w : World) (hv : Strs w v p) (hl : p.length * 16 ≤ 140737488351232) (hs : ∀ s ∈ p, s.size ≤ 9223372036854775807) (hb : b.size ≤ 9223372036854775807)
    (hp : port.size ≤ 9223372036854775807) (hc : ch.size ≤ 9223372036854775807) (hT : U8Tabs w) (hK : ShaTab w) (hM : MaxLenInt w) (hI0 : (intoF p b port ch).2 ≠ 0) (hF0 : (fullS p b).2 = 0) (hp0 : ¬p.length = 0) :
    Calls Tryd.prog 6 #[.agg #[v, .string b], .string port, .string ch] w (TruePost w) := by
  have cG : ∀ W, Below w.heap.size w W → Calls Tryd.prog 14 #[.agg #[v, .string b]] W (TracePost p b W) := fun W h => give_any v p b W (hv.keep h) (by omega)
  have cI : ∀ x W, Below w.heap.size w W → Strs W x p → Calls Tryd.prog 13 #[.agg #[x, .string b], .string port, .string ch] W (WayPost (intoF p b port ch) W) := fun x W h hx => into_any x p b port ch W hx hl hs hb hp hc (Utf8Tabs_below hT h)
  have cU : ∀ x W, Below w.heap.size w W → Strs W x p → Calls Tryd.prog 21 #[.agg #[x, .string b]] W (FullPost p b W) := fun x W h hx => full_any x p b W hx (by omega) hs hb (Utf8Tabs_below hT h)
  have cS : ∀ W, Below w.heap.size w W → Calls Tryd.prog 9 #[] W _ := fun W h => sure_any W (Utf8Tabs_below hT h)
  have hl1 : p.length ≤ 9223372036854775807 := by omega
  obtain ⟨⟨⟨Q, Qb⟩, In⟩, hQ⟩ : ∃ r, intoF p b port ch = r := ⟨_, rfl⟩
  rw [hQ] at cI hI0
  clear hQ
  obtain ⟨ds, hD, hC, hds, hne⟩ := back_denom hF0
  have hfs := full_size hF0
  have hPJ := parse_join hF0
  have cP : ∀ W, Below w.heap.size w W → Calls Tryd.prog 22 #[.string (fullS p b).1] W (WayPost (parseF (fullS p b).1) W) := fun W h => parse_any (fullS p b).1 W (by omega) (Utf8Tabs_below hT h) (hM.keep h)
  have cD : ∀ x W, Below w.heap.size w W → Strs W x p → Calls Tryd.prog 23 #[.agg #[x, .string b]] W (DenomPost p b W) := fun x W h hx => denom_any x p b W hx hl1 hs hb (Utf8Tabs_below hT h) (hK.keep h)
  have cC : ∀ W, Below w.heap.size w W → Calls Tryd.prog 24 #[.string ds] W (CheckPost ds W) := fun W h => check_any ds W (by omega) (Utf8Tabs_below hT h)
  unfold DenomPost at cD
  unfold CheckPost at cC
  unfold FullPost at cU
  rw [hPJ] at cP
  rw [hD] at cD
  rw [hC] at cC
  rw [hF0] at cU
  clear hPJ hD hC hF0 hfs hds
  generalize (fullS p b).1 = fs at *
  have hne2 : (ds.toList == fs.toList) = false := by rw [hne]; simpa using hp0
  have hpi : (0 : Int) < (p.length : Int) := by omega
  clear hne hp0
  unfold TracePost at cG
  unfold WayPost at cI cP
  simp only at *
  have hv0 := hv
  obtain ⟨A0, c0, rfl, _, _⟩ := hv
  rename Strs _ _ _ => hv
  clear hT hs hb hp hc hK hM
  go_enter Tryd.func6, Tryd.ntmps6
  go_wp2_with fail
  obtain ⟨W1, eW1, kn⟩ : ∃ W', (w.alloc (.cells #[.slice A0 p.length c0, .string b] 34)) = W' ∧ Two W' w.heap.size (.slice A0 p.length c0) (.string b) := ⟨_, rfl, two_new _ _ _ _⟩
  have bW1 := below_alloc w (.cells #[.slice A0 p.length c0, .string b] 34)
  rw [eW1] at bW1
  rw [eW1]
  have q1 := bW1
  obtain ⟨kt0, kt1⟩ := kn
  have hzt := cell_lt kt0
  clear eW1 bW1
  refine (cG _ q1).mono ?_
  rintro e1 w1 ⟨x1, rfl, hx1, hb1⟩
  have q2 := q1.trans (hb1.mono q1.size)
  have two_t_2 := (Two.mk kt0 kt1).keep hb1
  clear kt0 kt1 hzt
  obtain ⟨kt0, kt1⟩ := two_t_2
  have hzt := cell_lt kt0
  clear hb1
  obtain ⟨A1, c1, rfl, _, _⟩ := id hx1
  go_wp2_with fail
  refine (cI _ w1 q2 hx1).mono ?_
  rintro e2 w2 ⟨x2, e2, rfl, hx2, hE, hb2⟩
  have q3 := q2.trans (hb2.mono q2.size)
  have two_t_3 := (Two.mk kt0 kt1).keep hb2
  clear kt0 kt1 hzt
  obtain ⟨kt0, kt1⟩ := two_t_3
  have hzt := cell_lt kt0
  clear hb2
  clear hx1
  obtain ⟨A2, c2, rfl, _, _⟩ := id hx2
  obtain ⟨t2, x2', rfl⟩ := hE.iface hI0
  clear hE
  go_wp2_with fail
  obtain ⟨W4, eW4, kn⟩ : ∃ W', (w2.alloc (.cells #[.slice A2 Q.length c2, .string Qb] 35)) = W' ∧ Two W' w2.heap.size (.slice A2 Q.length c2) (.string Qb) := ⟨_, rfl, two_new _ _ _ _⟩
  have bW4 := below_alloc w2 (.cells #[.slice A2 Q.length c2, .string Qb] 35)
  rw [eW4] at bW4
  rw [eW4]
  have q4 := q3.trans (bW4.mono q3.size)
  have two_t_4 := (Two.mk kt0 kt1).keep bW4
  replace hx2 := hx2.keep bW4
  clear kt0 kt1 hzt
  obtain ⟨kt0, kt1⟩ := two_t_4
  have hzt := cell_lt kt0
  obtain ⟨kx0, kx1⟩ := kn
  have hzx := cell_lt kx0
  clear eW4 bW4
  clear hx2
  go_wp2_with fail
  refine (cG _ q4).mono ?_
  rintro e4 w7 ⟨x7, rfl, hx7, hb7⟩
  have q5 := q4.trans (hb7.mono q4.size)
  have two_t_5 := (Two.mk kt0 kt1).keep hb7
  have two_x_5 := (Two.mk kx0 kx1).keep hb7
  clear kt0 kt1 hzt
  obtain ⟨kt0, kt1⟩ := two_t_5
  have hzt := cell_lt kt0
  clear kx0 kx1 hzx
  obtain ⟨kx0, kx1⟩ := two_x_5
  have hzx := cell_lt kx0
  clear hb7
  obtain ⟨A7, c7, rfl, _, _⟩ := id hx7
  go_wp2_with fail
  refine (cU _ w7 q5 hx7).mono ?_
  rintro e5 w8 ⟨e8, rfl, hE8, hb8⟩
  have q6 := q5.trans (hb8.mono q5.size)
  have two_t_6 := (Two.mk kt0 kt1).keep hb8
  have two_x_6 := (Two.mk kx0 kx1).keep hb8
  clear kt0 kt1 hzt
  obtain ⟨kt0, kt1⟩ := two_t_6
  have hzt := cell_lt kt0
  clear kx0 kx1 hzx
  obtain ⟨kx0, kx1⟩ := two_x_6
  have hzx := cell_lt kx0
  clear hb8
  clear hx7
  obtain rfl := hE8.zero
  clear hE8
  go_wp2_with fail
  refine (cP _ q6).mono ?_
  rintro e6 w9 ⟨x9, e9, rfl, hx9, hE9, hb9⟩
  have q7 := q6.trans (hb9.mono q6.size)
  have two_t_7 := (Two.mk kt0 kt1).keep hb9
  have two_x_7 := (Two.mk kx0 kx1).keep hb9
  clear kt0 kt1 hzt
  obtain ⟨kt0, kt1⟩ := two_t_7
  have hzt := cell_lt kt0
  clear kx0 kx1 hzx
  obtain ⟨kx0, kx1⟩ := two_x_7
  have hzx := cell_lt kx0
  clear hb9
  obtain rfl := hE9.zero
  clear hE9
  obtain ⟨A9, c9, rfl, _, _⟩ := id hx9
  go_wp2_with fail
  obtain ⟨W8, eW8, kn⟩ : ∃ W', (w9.alloc (.cells #[.slice A9 p.length c9, .string b] 35)) = W' ∧ Two W' w9.heap.size (.slice A9 p.length c9) (.string b) := ⟨_, rfl, two_new _ _ _ _⟩
  have bW8 := below_alloc w9 (.cells #[.slice A9 p.length c9, .string b] 35)
  rw [eW8] at bW8
  rw [eW8]
  have q8 := q7.trans (bW8.mono q7.size)
  have two_t_8 := (Two.mk kt0 kt1).keep bW8
  have two_x_8 := (Two.mk kx0 kx1).keep bW8
  replace hx9 := hx9.keep bW8
  clear kt0 kt1 hzt
  obtain ⟨kt0, kt1⟩ := two_t_8
  have hzt := cell_lt kt0
  clear kx0 kx1 hzx
  obtain ⟨kx0, kx1⟩ := two_x_8
  have hzx := cell_lt kx0
  obtain ⟨kz0, kz1⟩ := kn
  have hzz := cell_lt kz0
  clear eW8 bW8
  refine (cG _ q8).mono ?_
  rintro e8 w10 ⟨x10, rfl, hx10, hb10⟩
  have q9 := q8.trans (hb10.mono q8.size)
  have two_t_9 := (Two.mk kt0 kt1).keep hb10
  have two_x_9 := (Two.mk kx0 kx1).keep hb10
  have two_z_9 := (Two.mk kz0 kz1).keep hb10
  replace hx9 := hx9.keep hb10
  clear kt0 kt1 hzt
  obtain ⟨kt0, kt1⟩ := two_t_9
  have hzt := cell_lt kt0
  clear kx0 kx1 hzx
  obtain ⟨kx0, kx1⟩ := two_x_9
  have hzx := cell_lt kx0
  clear kz0 kz1 hzz
  obtain ⟨kz0, kz1⟩ := two_z_9
  have hzz := cell_lt kz0
  clear hb10
  obtain ⟨A10, c10, rfl, _, _⟩ := id hx10
  go_wp2_with fail
  refine (cD _ w10 q9 hx10).mono ?_
  rintro e9 w11 ⟨e11, rfl, hE11, hb11⟩
  have q10 := q9.trans (hb11.mono q9.size)
  have two_t_10 := (Two.mk kt0 kt1).keep hb11
  have two_x_10 := (Two.mk kx0 kx1).keep hb11
  have two_z_10 := (Two.mk kz0 kz1).keep hb11
  replace hx9 := hx9.keep hb11
  clear kt0 kt1 hzt
  obtain ⟨kt0, kt1⟩ := two_t_10
  have hzt := cell_lt kt0
  clear kx0 kx1 hzx
  obtain ⟨kx0, kx1⟩ := two_x_10
  have hzx := cell_lt kx0
  clear kz0 kz1 hzz
  obtain ⟨kz0, kz1⟩ := two_z_10
  have hzz := cell_lt kz0
  clear hb11
  obtain rfl := hE11.zero
  clear hE11 hx10
  go_wp2_with fail
  refine (same_any _ _ p b _ hx9 (hv.keep q10) hl1).mono ?_
  rintro e10 w12 ⟨rfl, hb12⟩
  have q11 := q10.trans (hb12.mono q10.size)
  have two_t_11 := (Two.mk kt0 kt1).keep hb12
  have two_x_11 := (Two.mk kx0 kx1).keep hb12
  have two_z_11 := (Two.mk kz0 kz1).keep hb12
  replace hx9 := hx9.keep hb12
  clear kt0 kt1 hzt
  obtain ⟨kt0, kt1⟩ := two_t_11
  have hzt := cell_lt kt0
  clear kx0 kx1 hzx
  obtain ⟨kx0, kx1⟩ := two_x_11
  have hzx := cell_lt kx0
  clear kz0 kz1 hzz
  obtain ⟨kz0, kz1⟩ := two_z_11
  have hzz := cell_lt kz0
  clear hb12
  clear hx9
  go_wp2_with fail
  refine (cC _ q11).mono ?_
  rintro e11 w13 ⟨e13, rfl, hE13, hb13⟩
  have q12 := q11.trans (hb13.mono q11.size)
  have two_t_12 := (Two.mk kt0 kt1).keep hb13
  have two_x_12 := (Two.mk kx0 kx1).keep hb13
  have two_z_12 := (Two.mk kz0 kz1).keep hb13
  clear kt0 kt1 hzt
  obtain ⟨kt0, kt1⟩ := two_t_12
  have hzt := cell_lt kt0
  clear kx0 kx1 hzx
  obtain ⟨kx0, kx1⟩ := two_x_12
  have hzx := cell_lt kx0
  clear kz0 kz1 hzz
  obtain ⟨kz0, kz1⟩ := two_z_12
  have hzz := cell_lt kz0
  clear hb13
  obtain rfl := hE13.zero
  clear hE13
  go_wp2_with fail
  refine (cS _ q12).mono ?_
  rintro e12 w14 ⟨rfl, hb14⟩
  have q13 := q12.trans (hb14.mono q12.size)
  have two_t_13 := (Two.mk kt0 kt1).keep hb14
  have two_x_13 := (Two.mk kx0 kx1).keep hb14
  have two_z_13 := (Two.mk kz0 kz1).keep hb14
  clear kt0 kt1 hzt
  obtain ⟨kt0, kt1⟩ := two_t_13
  have hzt := cell_lt kt0
  clear kx0 kx1 hzx
  obtain ⟨kx0, kx1⟩ := two_x_13
  have hzx := cell_lt kx0
  clear kz0 kz1 hzz
  obtain ⟨kz0, kz1⟩ := two_z_13
  have hzz := cell_lt kz0
  clear hb14
  go_wp2
  go_ret
  exact ⟨rfl, q13⟩

theorem back_any (v : Value) (p : List ByteArray) (b port ch : ByteArray) (w : World) (hv : Strs w v p) (hl : p.length * 16 ≤ 140737488351232) (hs : ∀ s ∈ p, s.size ≤ 9223372036854775807) (hb : b.size ≤ 9223372036854775807)
    (hp : port.size ≤ 9223372036854775807) (hc : ch.size ≤ 9223372036854775807) (hT : U8Tabs w) (hK : ShaTab w) (hM : MaxLenInt w) :
    Calls Tryd.prog 6 #[.agg #[v, .string b], .string port, .string ch] w (TruePost w) := by
  by_cases hI : (intoF p b port ch).2 = 0 <;> by_cases hF : (fullS p b).2 = 0 <;> by_cases h0 : p.length = 0
  · exact back_ok_none v p b port ch w hv hl hs hb hp hc hT hK hM hI hF h0
  · exact back_ok_some v p b port ch w hv hl hs hb hp hc hT hK hM hI hF h0
  · exact back_ok_err v p b port ch w hv hl hs hb hp hc hT hI hF
  · exact back_ok_err v p b port ch w hv hl hs hb hp hc hT hI hF
  · exact back_no_none v p b port ch w hv hl hs hb hp hc hT hK hM hI hF h0
  · exact back_no_some v p b port ch w hv hl hs hb hp hc hT hK hM hI hF h0
  · exact back_no_err v p b port ch w hv hl hs hb hp hc hT hI hF
  · exact back_no_err v p b port ch w hv hl hs hb hp hc hT hI hF
end Go.Proofs.YtbopkepjbifhhaaDoor
