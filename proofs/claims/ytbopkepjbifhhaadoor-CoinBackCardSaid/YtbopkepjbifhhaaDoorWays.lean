/- The walk of isthmuslaw14.CoinWays: whatever the trace and the two strings are, it returns true. -/
import Derived.Test.YtbopkepjbifhhaaDoorRefInto
import Derived.Test.YtbopkepjbifhhaaDoorSums
namespace Go.Proofs.YtbopkepjbifhhaaDoor
open Go.RowKit

/-- A block whose two cells are known. -/
structure Two (w : World) (g : Nat) (a b : Value) : Prop where
  c0 : w.cell? ⟨g, 0, none⟩ = some a
  c1 : w.cell? ⟨g, 1, none⟩ = some b
theorem Two.keep {w w' : World} {g : Nat} {a b : Value} (h : Two w g a b) (hb : Below w.heap.size w w') : Two w' g a b := ⟨(hb.cell (p := ⟨g, 0, none⟩) (cell_lt h.c0)).trans h.c0, (hb.cell (p := ⟨g, 1, none⟩) (cell_lt h.c1)).trans h.c1⟩
theorem two_new (w : World) (a b : Value) (t : TypeId) : Two (w.alloc (.cells #[a, b] t)) w.heap.size a b := ⟨by simp, by simp⟩

set_option maxRecDepth 100000 in
set_option maxHeartbeats 2000000 in
theorem ways_any (v : Value) (p : List ByteArray) (b port ch : ByteArray) (w : World) (hv : Strs w v p) (hl : p.length * 16 ≤ 140737488351232) (hs : ∀ s ∈ p, s.size ≤ 9223372036854775807) (hb : b.size ≤ 9223372036854775807)
    (hp : port.size ≤ 9223372036854775807) (hc : ch.size ≤ 9223372036854775807) (hT : U8Tabs w) (hG : ErrType w) :
    Calls Tryd.prog 5 #[.agg #[v, .string b], .string port, .string ch] w (TruePost w) := by
  have cG : ∀ W, Below w.heap.size w W → Calls Tryd.prog 14 #[.agg #[v, .string b]] W (TracePost p b W) := fun W h => give_any v p b W (hv.keep h) (by omega)
  have cI : ∀ x W, Below w.heap.size w W → Strs W x p → Calls Tryd.prog 13 #[.agg #[x, .string b], .string port, .string ch] W (WayPost (intoF p b port ch) W) := fun x W h hx => into_any x p b port ch W hx hl hs hb hp hc (Utf8Tabs_below hT h)
  have cJ : ∀ W, Below w.heap.size w W → Calls Tryd.prog 15 #[.agg #[v, .string b], .string port, .string ch] W (RefWayPost (intoF p b port ch) W) := fun W h => refInto_any v p b port ch W (hv.keep h) hl hs hb hp hc
  have cF : ∀ x W, Below w.heap.size w W → Strs W x p → Calls Tryd.prog 16 #[.agg #[x, .string b], .string port, .string ch] W (FromPost (fromF p port ch) b W) := fun x W h hx => from_any x p b port ch W hx hl hp hc (Utf8Tabs_below hT h)
  have cE : ∀ W, Below w.heap.size w W → Calls Tryd.prog 17 #[.agg #[v, .string b], .string port, .string ch] W (FromPost (fromF p port ch) b W) := fun W h => refFrom_any v p b port ch W (hv.keep h) hl hp hc
  have cP : ∀ W, Below w.heap.size w W → Calls Tryd.prog 19 #[.string port, .string ch] W _ := fun W h => port_any port ch W hp hc (Utf8Tabs_below hT h)
  have cQ : ∀ W, Calls Tryd.prog 20 #[.string port, .string ch] W _ := fun W => refPort_any port ch W hp hc
  have cS : ∀ W, Below w.heap.size w W → Calls Tryd.prog 9 #[] W _ := fun W h => sure_any W (Utf8Tabs_below hT h)
  have HG : ∀ W, Below w.heap.size w W → ErrType W := fun W h => (h.cell (cell_lt hG)).trans hG
  have hli : (intoF p b port ch).1.1.length ≤ 9223372036854775807 := by
    unfold intoF
    split
    · simp
    · split <;> simp <;> omega
  have hlf : (fromF p port ch).1.length ≤ 9223372036854775807 := by
    unfold fromF
    split <;> simp <;> omega
  obtain ⟨A0, c0, rfl, _, _⟩ := id hv
  generalize intoF p b port ch = I at *
  generalize fromF p port ch = R at *
  obtain ⟨⟨Ip, Ib⟩, In⟩ := I
  obtain ⟨Rp, Rt⟩ := R
  unfold TracePost at cG
  unfold WayPost at cI
  unfold RefWayPost at cJ
  unfold FromPost at cF cE
  simp only at *
  clear hv hT hG hs hb hp hc
  go_enter Tryd.func5, Tryd.ntmps5
  go_wp2_with fail
  obtain ⟨W1, eW1, kn⟩ : ∃ W', (w.alloc (.cells #[.slice A0 p.length c0, .string b] 34)) = W' ∧ Two W' w.heap.size (.slice A0 p.length c0) (.string b) := ⟨_, rfl, two_new _ _ _ _⟩
  have bW1 := below_alloc w (.cells #[.slice A0 p.length c0, .string b] 34)
  rw [eW1] at bW1
  rw [eW1]
  have q1 := bW1
  obtain ⟨kt0, kt1⟩ := kn
  have hzt := cell_lt kt0
  clear eW1 bW1
  refine (cG _ q1).mono ?_
  rintro e1 w1 ⟨x1, rfl, hx1, hb1⟩
  have q2 := q1.trans (hb1.mono q1.size)
  have two_t_2 := (Two.mk kt0 kt1).keep hb1
  clear kt0 kt1 hzt
  obtain ⟨kt0, kt1⟩ := two_t_2
  have hzt := cell_lt kt0
  clear hb1
  obtain ⟨A1, c1, rfl, _, _⟩ := id hx1
  go_wp2_with fail
  refine (cI _ w1 q2 hx1).mono ?_
  rintro e2 w2 ⟨x2, e2, rfl, hx2, hE, hb2⟩
  have q3 := q2.trans (hb2.mono q2.size)
  have two_t_3 := (Two.mk kt0 kt1).keep hb2
  clear kt0 kt1 hzt
  obtain ⟨kt0, kt1⟩ := two_t_3
  have hzt := cell_lt kt0
  clear hb2
  clear hx1
  obtain ⟨A2, c2, rfl, _, _⟩ := id hx2
  go_wp2_with fail
  obtain ⟨W4, eW4, kn⟩ : ∃ W', (w2.alloc (.cells #[.slice A2 Ip.length c2, .string Ib] 35)) = W' ∧ Two W' w2.heap.size (.slice A2 Ip.length c2) (.string Ib) := ⟨_, rfl, two_new _ _ _ _⟩
  have bW4 := below_alloc w2 (.cells #[.slice A2 Ip.length c2, .string Ib] 35)
  rw [eW4] at bW4
  rw [eW4]
  have q4 := q3.trans (bW4.mono q3.size)
  have two_t_4 := (Two.mk kt0 kt1).keep bW4
  replace hx2 := hx2.keep bW4
  replace hE := hE.keep bW4
  clear kt0 kt1 hzt
  obtain ⟨kt0, kt1⟩ := two_t_4
  have hzt := cell_lt kt0
  obtain ⟨kx0, kx1⟩ := kn
  have hzx := cell_lt kx0
  clear eW4 bW4
  refine (cJ _ q4).mono ?_
  rintro e4 w3 ⟨x3, rfl, hx3, hb3⟩
  have q5 := q4.trans (hb3.mono q4.size)
  have two_t_5 := (Two.mk kt0 kt1).keep hb3
  have two_x_5 := (Two.mk kx0 kx1).keep hb3
  replace hx2 := hx2.keep hb3
  replace hE := hE.keep hb3
  clear kt0 kt1 hzt
  obtain ⟨kt0, kt1⟩ := two_t_5
  have hzt := cell_lt kt0
  clear kx0 kx1 hzx
  obtain ⟨kx0, kx1⟩ := two_x_5
  have hzx := cell_lt kx0
  clear hb3
  obtain ⟨A3, c3, rfl, _, _⟩ := id hx3
  go_wp2_with fail
  obtain ⟨W6, eW6, kn⟩ : ∃ W', (w3.alloc (.cells #[.slice A3 Ip.length c3, .string Ib] 34)) = W' ∧ Two W' w3.heap.size (.slice A3 Ip.length c3) (.string Ib) := ⟨_, rfl, two_new _ _ _ _⟩
  have bW6 := below_alloc w3 (.cells #[.slice A3 Ip.length c3, .string Ib] 34)
  rw [eW6] at bW6
  rw [eW6]
  have q6 := q5.trans (bW6.mono q5.size)
  have two_t_6 := (Two.mk kt0 kt1).keep bW6
  have two_x_6 := (Two.mk kx0 kx1).keep bW6
  replace hx2 := hx2.keep bW6
  replace hx3 := hx3.keep bW6
  replace hE := hE.keep bW6
  clear kt0 kt1 hzt
  obtain ⟨kt0, kt1⟩ := two_t_6
  have hzt := cell_lt kt0
  clear kx0 kx1 hzx
  obtain ⟨kx0, kx1⟩ := two_x_6
  have hzx := cell_lt kx0
  obtain ⟨ky0, ky1⟩ := kn
  have hzy := cell_lt ky0
  clear eW6 bW6
  refine (cG _ q6).mono ?_
  rintro e6 w4 ⟨x4, rfl, hx4, hb4⟩
  have q7 := q6.trans (hb4.mono q6.size)
  have two_t_7 := (Two.mk kt0 kt1).keep hb4
  have two_x_7 := (Two.mk kx0 kx1).keep hb4
  have two_y_7 := (Two.mk ky0 ky1).keep hb4
  replace hx2 := hx2.keep hb4
  replace hx3 := hx3.keep hb4
  replace hE := hE.keep hb4
  clear kt0 kt1 hzt
  obtain ⟨kt0, kt1⟩ := two_t_7
  have hzt := cell_lt kt0
  clear kx0 kx1 hzx
  obtain ⟨kx0, kx1⟩ := two_x_7
  have hzx := cell_lt kx0
  clear ky0 ky1 hzy
  obtain ⟨ky0, ky1⟩ := two_y_7
  have hzy := cell_lt ky0
  clear hb4
  obtain ⟨A4, c4, rfl, _, _⟩ := id hx4
  go_wp2_with fail
  refine (cF _ _ q7 hx4).mono ?_
  rintro e7 w5 ⟨x5, rfl, hx5, hb5⟩
  have q8 := q7.trans (hb5.mono q7.size)
  have two_t_8 := (Two.mk kt0 kt1).keep hb5
  have two_x_8 := (Two.mk kx0 kx1).keep hb5
  have two_y_8 := (Two.mk ky0 ky1).keep hb5
  replace hx2 := hx2.keep hb5
  replace hx3 := hx3.keep hb5
  replace hE := hE.keep hb5
  clear kt0 kt1 hzt
  obtain ⟨kt0, kt1⟩ := two_t_8
  have hzt := cell_lt kt0
  clear kx0 kx1 hzx
  obtain ⟨kx0, kx1⟩ := two_x_8
  have hzx := cell_lt kx0
  clear ky0 ky1 hzy
  obtain ⟨ky0, ky1⟩ := two_y_8
  have hzy := cell_lt ky0
  clear hb5
  clear hx4
  obtain ⟨A5, c5, rfl, _, _⟩ := id hx5
  go_wp2_with fail
  obtain ⟨W9, eW9, kn⟩ : ∃ W', (w5.alloc (.cells #[.slice A5 Rp.length c5, .string b] 35)) = W' ∧ Two W' w5.heap.size (.slice A5 Rp.length c5) (.string b) := ⟨_, rfl, two_new _ _ _ _⟩
  have bW9 := below_alloc w5 (.cells #[.slice A5 Rp.length c5, .string b] 35)
  rw [eW9] at bW9
  rw [eW9]
  have q9 := q8.trans (bW9.mono q8.size)
  have two_t_9 := (Two.mk kt0 kt1).keep bW9
  have two_x_9 := (Two.mk kx0 kx1).keep bW9
  have two_y_9 := (Two.mk ky0 ky1).keep bW9
  replace hx2 := hx2.keep bW9
  replace hx3 := hx3.keep bW9
  replace hx5 := hx5.keep bW9
  replace hE := hE.keep bW9
  clear kt0 kt1 hzt
  obtain ⟨kt0, kt1⟩ := two_t_9
  have hzt := cell_lt kt0
  clear kx0 kx1 hzx
  obtain ⟨kx0, kx1⟩ := two_x_9
  have hzx := cell_lt kx0
  clear ky0 ky1 hzy
  obtain ⟨ky0, ky1⟩ := two_y_9
  have hzy := cell_lt ky0
  obtain ⟨ku0, ku1⟩ := kn
  have hzu := cell_lt ku0
  clear eW9 bW9
  refine (cE _ q9).mono ?_
  rintro e9 w6 ⟨x6, rfl, hx6, hb6⟩
  have q10 := q9.trans (hb6.mono q9.size)
  have two_t_10 := (Two.mk kt0 kt1).keep hb6
  have two_x_10 := (Two.mk kx0 kx1).keep hb6
  have two_y_10 := (Two.mk ky0 ky1).keep hb6
  have two_u_10 := (Two.mk ku0 ku1).keep hb6
  replace hx2 := hx2.keep hb6
  replace hx3 := hx3.keep hb6
  replace hx5 := hx5.keep hb6
  replace hE := hE.keep hb6
  clear kt0 kt1 hzt
  obtain ⟨kt0, kt1⟩ := two_t_10
  have hzt := cell_lt kt0
  clear kx0 kx1 hzx
  obtain ⟨kx0, kx1⟩ := two_x_10
  have hzx := cell_lt kx0
  clear ky0 ky1 hzy
  obtain ⟨ky0, ky1⟩ := two_y_10
  have hzy := cell_lt ky0
  clear ku0 ku1 hzu
  obtain ⟨ku0, ku1⟩ := two_u_10
  have hzu := cell_lt ku0
  clear hb6
  obtain ⟨A6, c6, rfl, _, _⟩ := id hx6
  go_wp2_with fail
  obtain ⟨W11, eW11, kn⟩ : ∃ W', (w6.alloc (.cells #[.slice A6 Rp.length c6, .string b] 34)) = W' ∧ Two W' w6.heap.size (.slice A6 Rp.length c6) (.string b) := ⟨_, rfl, two_new _ _ _ _⟩
  have bW11 := below_alloc w6 (.cells #[.slice A6 Rp.length c6, .string b] 34)
  rw [eW11] at bW11
  rw [eW11]
  have q11 := q10.trans (bW11.mono q10.size)
  have two_t_11 := (Two.mk kt0 kt1).keep bW11
  have two_x_11 := (Two.mk kx0 kx1).keep bW11
  have two_y_11 := (Two.mk ky0 ky1).keep bW11
  have two_u_11 := (Two.mk ku0 ku1).keep bW11
  replace hx2 := hx2.keep bW11
  replace hx3 := hx3.keep bW11
  replace hx5 := hx5.keep bW11
  replace hx6 := hx6.keep bW11
  replace hE := hE.keep bW11
  clear kt0 kt1 hzt
  obtain ⟨kt0, kt1⟩ := two_t_11
  have hzt := cell_lt kt0
  clear kx0 kx1 hzx
  obtain ⟨kx0, kx1⟩ := two_x_11
  have hzx := cell_lt kx0
  clear ky0 ky1 hzy
  obtain ⟨ky0, ky1⟩ := two_y_11
  have hzy := cell_lt ky0
  clear ku0 ku1 hzu
  obtain ⟨ku0, ku1⟩ := two_u_11
  have hzu := cell_lt ku0
  obtain ⟨kv0, kv1⟩ := kn
  have hzv := cell_lt kv0
  clear eW11 bW11
  refine (same_any _ _ Ip Ib _ hx2 hx3 hli).mono ?_
  rintro e11 w7 ⟨rfl, hb7⟩
  have q12 := q11.trans (hb7.mono q11.size)
  have two_t_12 := (Two.mk kt0 kt1).keep hb7
  have two_x_12 := (Two.mk kx0 kx1).keep hb7
  have two_y_12 := (Two.mk ky0 ky1).keep hb7
  have two_u_12 := (Two.mk ku0 ku1).keep hb7
  have two_v_12 := (Two.mk kv0 kv1).keep hb7
  replace hx2 := hx2.keep hb7
  replace hx3 := hx3.keep hb7
  replace hx5 := hx5.keep hb7
  replace hx6 := hx6.keep hb7
  replace hE := hE.keep hb7
  clear kt0 kt1 hzt
  obtain ⟨kt0, kt1⟩ := two_t_12
  have hzt := cell_lt kt0
  clear kx0 kx1 hzx
  obtain ⟨kx0, kx1⟩ := two_x_12
  have hzx := cell_lt kx0
  clear ky0 ky1 hzy
  obtain ⟨ky0, ky1⟩ := two_y_12
  have hzy := cell_lt ky0
  clear ku0 ku1 hzu
  obtain ⟨ku0, ku1⟩ := two_u_12
  have hzu := cell_lt ku0
  clear kv0 kv1 hzv
  obtain ⟨kv0, kv1⟩ := two_v_12
  have hzv := cell_lt kv0
  clear hb7
  go_wp2_with fail
  refine (num_any _ In _ hE (HG _ q12)).mono ?_
  rintro e12 w8 ⟨rfl, hb8⟩
  have q13 := q12.trans (hb8.mono q12.size)
  have two_t_13 := (Two.mk kt0 kt1).keep hb8
  have two_x_13 := (Two.mk kx0 kx1).keep hb8
  have two_y_13 := (Two.mk ky0 ky1).keep hb8
  have two_u_13 := (Two.mk ku0 ku1).keep hb8
  have two_v_13 := (Two.mk kv0 kv1).keep hb8
  replace hx2 := hx2.keep hb8
  replace hx3 := hx3.keep hb8
  replace hx5 := hx5.keep hb8
  replace hx6 := hx6.keep hb8
  replace hE := hE.keep hb8
  clear kt0 kt1 hzt
  obtain ⟨kt0, kt1⟩ := two_t_13
  have hzt := cell_lt kt0
  clear kx0 kx1 hzx
  obtain ⟨kx0, kx1⟩ := two_x_13
  have hzx := cell_lt kx0
  clear ky0 ky1 hzy
  obtain ⟨ky0, ky1⟩ := two_y_13
  have hzy := cell_lt ky0
  clear ku0 ku1 hzu
  obtain ⟨ku0, ku1⟩ := two_u_13
  have hzu := cell_lt ku0
  clear kv0 kv1 hzv
  obtain ⟨kv0, kv1⟩ := two_v_13
  have hzv := cell_lt kv0
  clear hb8
  go_wp2_with fail
  refine (same_any _ _ Rp b _ hx5 hx6 hlf).mono ?_
  rintro e13 w9 ⟨rfl, hb9⟩
  have q14 := q13.trans (hb9.mono q13.size)
  have two_t_14 := (Two.mk kt0 kt1).keep hb9
  have two_x_14 := (Two.mk kx0 kx1).keep hb9
  have two_y_14 := (Two.mk ky0 ky1).keep hb9
  have two_u_14 := (Two.mk ku0 ku1).keep hb9
  have two_v_14 := (Two.mk kv0 kv1).keep hb9
  replace hx2 := hx2.keep hb9
  replace hx3 := hx3.keep hb9
  replace hx5 := hx5.keep hb9
  replace hx6 := hx6.keep hb9
  replace hE := hE.keep hb9
  clear kt0 kt1 hzt
  obtain ⟨kt0, kt1⟩ := two_t_14
  have hzt := cell_lt kt0
  clear kx0 kx1 hzx
  obtain ⟨kx0, kx1⟩ := two_x_14
  have hzx := cell_lt kx0
  clear ky0 ky1 hzy
  obtain ⟨ky0, ky1⟩ := two_y_14
  have hzy := cell_lt ky0
  clear ku0 ku1 hzu
  obtain ⟨ku0, ku1⟩ := two_u_14
  have hzu := cell_lt ku0
  clear kv0 kv1 hzv
  obtain ⟨kv0, kv1⟩ := two_v_14
  have hzv := cell_lt kv0
  clear hb9
  go_wp2_with fail
  refine (cP _ q14).mono ?_
  rintro e14 w10 ⟨rfl, hb10⟩
  have q15 := q14.trans (hb10.mono q14.size)
  have two_t_15 := (Two.mk kt0 kt1).keep hb10
  have two_x_15 := (Two.mk kx0 kx1).keep hb10
  have two_y_15 := (Two.mk ky0 ky1).keep hb10
  have two_u_15 := (Two.mk ku0 ku1).keep hb10
  have two_v_15 := (Two.mk kv0 kv1).keep hb10
  replace hx2 := hx2.keep hb10
  replace hx3 := hx3.keep hb10
  replace hx5 := hx5.keep hb10
  replace hx6 := hx6.keep hb10
  replace hE := hE.keep hb10
  clear kt0 kt1 hzt
  obtain ⟨kt0, kt1⟩ := two_t_15
  have hzt := cell_lt kt0
  clear kx0 kx1 hzx
  obtain ⟨kx0, kx1⟩ := two_x_15
  have hzx := cell_lt kx0
  clear ky0 ky1 hzy
  obtain ⟨ky0, ky1⟩ := two_y_15
  have hzy := cell_lt ky0
  clear ku0 ku1 hzu
  obtain ⟨ku0, ku1⟩ := two_u_15
  have hzu := cell_lt ku0
  clear kv0 kv1 hzv
  obtain ⟨kv0, kv1⟩ := two_v_15
  have hzv := cell_lt kv0
  clear hb10
  go_wp2_with fail
  refine (cQ _).mono ?_
  rintro e w11 ⟨rfl, rfl⟩
  go_wp2_with fail
  refine (cS _ q15).mono ?_
  rintro e15 w12 ⟨rfl, hb12⟩
  have q16 := q15.trans (hb12.mono q15.size)
  have two_t_16 := (Two.mk kt0 kt1).keep hb12
  have two_x_16 := (Two.mk kx0 kx1).keep hb12
  have two_y_16 := (Two.mk ky0 ky1).keep hb12
  have two_u_16 := (Two.mk ku0 ku1).keep hb12
  have two_v_16 := (Two.mk kv0 kv1).keep hb12
  replace hx2 := hx2.keep hb12
  replace hx3 := hx3.keep hb12
  replace hx5 := hx5.keep hb12
  replace hx6 := hx6.keep hb12
  replace hE := hE.keep hb12
  clear kt0 kt1 hzt
  obtain ⟨kt0, kt1⟩ := two_t_16
  have hzt := cell_lt kt0
  clear kx0 kx1 hzx
  obtain ⟨kx0, kx1⟩ := two_x_16
  have hzx := cell_lt kx0
  clear ky0 ky1 hzy
  obtain ⟨ky0, ky1⟩ := two_y_16
  have hzy := cell_lt ky0
  clear ku0 ku1 hzu
  obtain ⟨ku0, ku1⟩ := two_u_16
  have hzu := cell_lt ku0
  clear kv0 kv1 hzv
  obtain ⟨kv0, kv1⟩ := two_v_16
  have hzv := cell_lt kv0
  clear hb12
  go_wp2
  go_ret
  exact ⟨rfl, q16⟩
end Go.Proofs.YtbopkepjbifhhaaDoor
