/- The document's Into. -/
import Derived.Test.YtbopkepjbifhhaaDoorRefWay
import Derived.Deep.RegionLaw
namespace Go.Proofs.YtbopkepjbifhhaaDoor
open Go.RowKit

set_option maxRecDepth 100000 in
set_option maxHeartbeats 2000000 in
theorem refInto_any (v : Value) (p : List ByteArray) (b port ch : ByteArray) (w : World) (hv : Strs w v p) (hl : p.length * 16 ≤ 140737488351232) (hs : ∀ s ∈ p, s.size ≤ 9223372036854775807) (hb : b.size ≤ 9223372036854775807)
    (hp : port.size ≤ 9223372036854775807) (hc : ch.size ≤ 9223372036854775807) :
    Calls Tryd.prog 15 #[.agg #[v, .string b], .string port, .string ch] w (RefWayPost (intoF p b port ch) w) := by
  have hb2 : ∀ o1 o2, Below w.heap.size w ((w.alloc o1).alloc o2) := fun o1 o2 => ((Below.refl _ _).alloc (Nat.le_refl _) _).alloc (by simp) _
  have c1 : ∀ W, Calls Tryd.prog 20 #[.string port, .string ch] W _ := fun W => refPort_any port ch W hp hc
  obtain ⟨A, c, rfl, hcc, hcell⟩ := hv
  have hvB : ∀ W, Below w.heap.size w W → Row W (.slice A p.length c) 1 p.length (p.map Value.string) := fun W h => Strs.row (Strs.keep ⟨A, c, rfl, hcc, hcell⟩ h)
  clear hcell
  by_cases he : (portS port ch).toList = []
  · have hr : intoF p b port ch = (([], ⟨#[]⟩), 40) := by rw [intoF, if_pos he]
    have HR := Lib.hid hr
    generalize portS port ch = e at *
    clear hr
    go_enter Tryd.func15, Tryd.ntmps15
    go_wp2_with fail
    refine (c1 _).mono ?_
    rintro e1 w1 ⟨rfl, rfl⟩
    go_wp2
    refine bodyPost_ret (v := .tuple #[.agg #[.slice none 0 0, .string ⟨#[]⟩], .int .i64 40]) (by simp [results, Tryd.results15, go_sem]) rfl ?_
    exact ⟨_, by rw [HR.out], by rw [HR.out]; exact strs_nil _, hb2 _ _⟩
  · generalize hep : portS port ch = e at *
    have HE := Lib.hid hep
    clear hep
    have he2 : e.toList.isEmpty = false := by simpa using he
    obtain ⟨i0, hi0, hz0, hz1, hz2⟩ := info_parts infoStr
    go_enter Tryd.func15, Tryd.ntmps15
    go_wp2_with fail
    refine (c1 _).mono ?_
    rintro e1 w1 ⟨rfl, rfl⟩
    go_upto_region 4 with fail
    go_cut [] (fun wx => ∃ (A' : Option Addr) (c' : Nat), wx.cell? ⟨w.heap.size + 1 + 1, 0, none⟩ = some (.slice A' (1 + p.length) c') ∧ wx.cell? ⟨w.heap.size + 1 + 1, 1, none⟩ = some (.string b) ∧ wx.ownsRow (w.heap.size + 3) 9 1 (.slice A' (1 + p.length) c') (1 + p.length) ((e :: p).map Value.string) ∧
      wx.cell? ⟨w.heap.size + 1, 0, none⟩ = some (.slice none 0 0) ∧ wx.cell? ⟨w.heap.size + 1, 1, none⟩ = some (.string ⟨#[]⟩) ∧ (∀ o, wx.frozen? ⟨w.heap.size + 1, o, none⟩ = false) ∧ Below w.heap.size w wx)
    case first =>
      generalize hW0 : (((w.alloc (.cells #[.slice A p.length c, .string b] 34)).alloc (.cells #[.slice none 0 0, .string ⟨#[]⟩] 34)).alloc (.cells #[.slice none 0 0, .string b] 34)) = W0
      have b0 : Below w.heap.size w W0 := by rw [← hW0]; exact (hb2 _ _).alloc (by simp <;> omega) _
      have z0 : W0.heap.size = w.heap.size + 3 := by rw [← hW0]; simp
      have t0 : W0.cell? ⟨w.heap.size, 0, none⟩ = some (.slice A p.length c) := by rw [← hW0]; exact (World.cell?_alloc_lt _ _ ⟨w.heap.size, 0, none⟩ (by simp <;> omega)).trans ((World.cell?_alloc_lt _ _ ⟨w.heap.size, 0, none⟩ (by simp)).trans (World.cell?_alloc_at _ _ _ _ rfl))
      have x0 : W0.cell? ⟨w.heap.size + 1 + 1, 0, none⟩ = some (.slice none 0 0) := by rw [← hW0]; exact World.cell?_alloc_at _ _ _ _ (by simp)
      have x1 : W0.cell? ⟨w.heap.size + 1 + 1, 1, none⟩ = some (.string b) := by rw [← hW0]; exact World.cell?_alloc_at _ _ _ _ (by simp)
      have xf : ∀ o, W0.frozen? ⟨w.heap.size + 1 + 1, o, none⟩ = false := fun o => by rw [← hW0]; have := World.frozen?_alloc_new (w := (w.alloc (.cells #[.slice A p.length c, .string b] 34)).alloc (.cells #[.slice none 0 0, .string ⟨#[]⟩] 34)) #[.slice none 0 0, .string b] 34 o; simp only [World.size_alloc] at this; exact this
      have r0 : W0.cell? ⟨w.heap.size + 1, 0, none⟩ = some (.slice none 0 0) := by rw [← hW0]; exact (World.cell?_alloc_lt _ _ ⟨w.heap.size + 1, 0, none⟩ (by simp)).trans (World.cell?_alloc_at _ _ _ _ (by simp))
      have r1 : W0.cell? ⟨w.heap.size + 1, 1, none⟩ = some (.string ⟨#[]⟩) := by rw [← hW0]; exact (World.cell?_alloc_lt _ _ ⟨w.heap.size + 1, 1, none⟩ (by simp)).trans (World.cell?_alloc_at _ _ _ _ (by simp))
      have rf : ∀ o, W0.frozen? ⟨w.heap.size + 1, o, none⟩ = false := fun o => by rw [← hW0, World.frozen?_alloc_old _ _ _ (by simp)]; have := World.frozen?_alloc_new (w := w.alloc (.cells #[.slice A p.length c, .string b] 34)) #[.slice none 0 0, .string ⟨#[]⟩] 34 o; simp only [World.size_alloc] at this; exact this
      have HZ := Lib.hid z0
      have hl0 : w.heap.size < W0.heap.size := by omega
      have hl1 : w.heap.size + 1 < W0.heap.size := by omega
      have hl2 : w.heap.size + 1 + 1 < W0.heap.size := by omega
      clear hW0 z0
      go_region_law (first
        | (go_simp; go_at_call 20; refine (c1 _).mono ?_; rintro e1 w1 ⟨rfl, rfl⟩)
        | (refine step_append_row rfl _ _ 32 rfl W0.heap.size 9 i0 (.string ⟨#[]⟩) 1 16 Tryd.underlying32 hi0 hz0 hz1 hz2 rfl (by decide) (.slice none 0 0) 0 [] rfl (World.ownsRow_nil _ _ _ _) (.slice (some ⟨W0.heap.size, 0, none⟩) 1 1) 1 [.string e] rfl (Row.of_own (own_block (base := W0.heap.size) (heap_alloc_new W0 _) (Nat.le_refl _) rfl (by decide))) (by simp [Value.oneCell']) (by decide) (by decide) (by simp) ?_; intro A1 c1' w1 hown1 hgrow1 hat1; have hbw := below_of_grown hgrow1; obtain ⟨hcf, hff⟩ := bcells hbw; have hzz := hbw.size; simp only [Nat.zero_add, List.nil_append] at hown1; have hB1 : Below W0.heap.size W0 w1 := ((below_alloc _ _).drew).trans (hbw.mono (by simp)))
        | (refine step_append_row rfl _ _ 32 rfl W0.heap.size 9 i0 (.string ⟨#[]⟩) 1 16 Tryd.underlying32 hi0 hz0 hz1 hz2 rfl (by decide) (.slice A1 1 c1') 1 [.string e] rfl hown1 (.slice A p.length c) p.length (p.map Value.string) rfl (hvB _ (b0.trans (hB1.mono (Nat.le_of_lt hl0)))) (strs_one p) (by unfold maxLen; omega) (by omega) hB1.size ?_; intro A2 c2' w2 hown2 hgrow2 hat2; have hB2 : Below W0.heap.size W0 w2 := hB1.grown hgrow2 hB1.size (fun k hk => (hown1.lt k hk).1); have m0 := (hB2.cell (p := ⟨w.heap.size + 1 + 1, 0, none⟩) hl2).trans x0; have mf := fun o => (hB2.frozen (p := ⟨w.heap.size + 1 + 1, o, none⟩) hl2).trans (xf o)))
      all_goals (go_wp2_with fail; go_meet; exact ⟨A2, c2', World.cell?_setCell_same _ _ _ m0, (World.cell?_setCell_other _ _ _ _ (by simp)).trans ((hB2.cell (p := ⟨w.heap.size + 1 + 1, 1, none⟩) hl2).trans x1), by rw [← HZ.out]; exact ownsRow_setCell_below hown2 hl2 _, (World.cell?_setCell_other _ _ _ _ (by simp)).trans ((hB2.cell (p := ⟨w.heap.size + 1, 0, none⟩) hl1).trans r0), (World.cell?_setCell_other _ _ _ _ (by simp)).trans ((hB2.cell (p := ⟨w.heap.size + 1, 1, none⟩) hl1).trans r1), fun o => (World.frozen?_setCell _ _ _ _).trans ((hB2.frozen (p := ⟨w.heap.size + 1, o, none⟩) hl1).trans (rf o)), (b0.trans (hB2.mono b0.size)).setCell (by simp <;> omega) _⟩)
    case rest =>
      obtain ⟨A', c', j0, j1, jo, r0, r1, rf, jb⟩ := hcut
      have js : Strs wc (.slice A' (1 + p.length) c') (e :: p) := Strs.of_own jo (by simp; omega)
      have c2 := refFull_any _ (e :: p) b wc js (by simp; omega) (by
        intro s hs2
        rcases List.mem_cons.1 hs2 with rfl | h
        · rw [← HE.out]; exact Nat.le_trans (portS_size _ _) (by omega)
        · exact hs s h) hb
      unfold RefFullPost at c2
      have hwl : w.heap.size + 1 < wc.heap.size := cell_lt r0
      have hgl : w.heap.size + 1 + 1 < wc.heap.size := cell_lt j0
      by_cases h0 : (fullS (e :: p) b).2 = 0
      · have hr : intoF p b port ch = ((e :: p, b), 0) := by rw [intoF, HE.out, if_neg he, if_pos h0]
        have HR := Lib.hid hr
        rw [h0] at c2
        clear hr h0 hs c1 hvB
        go_wp2_with fail
        refine c2.mono ?_
        rintro e2 w2 ⟨rfl, hb2⟩
        have jo2 := own_keep jo hb2
        obtain ⟨hcf, hff⟩ := bcells hb2
        have hz2 := hb2.size
        clear c2
        go_wp2
        refine bodyPost_ret (v := .tuple #[.agg #[.slice A' (1 + p.length) c', .string b], .int .i64 0]) (by simp [results, Tryd.results15, go_sem, hcf, r0, r1, hwl]) rfl ?_
        have q3 := jb.trans (hb2.mono jb.size)
        refine ⟨_, by rw [HR.out], ?_, ?_⟩
        · rw [HR.out]
          refine Strs.of_own (base := w.heap.size + 3) (e := 9) (n := 1 + p.length) ?_ (by simp; omega)
          repeat (first | exact jo2 | refine ownsRow_setCell_below ?_ (by simp <;> omega) _)
        · repeat (first | exact q3 | refine Below.setCell ?_ (by simp <;> omega) _)
      · have hr : intoF p b port ch = (([], ⟨#[]⟩), (fullS (e :: p) b).2) := by rw [intoF, HE.out, if_neg he, if_neg h0]
        have HR := Lib.hid hr
        generalize (fullS (e :: p) b).2 = n at *
        have hn : (n == 0) = false := by rw [beq_eq_false_iff_ne]; exact h0
        clear hr hs c1 hvB
        go_wp2_with fail
        refine c2.mono ?_
        rintro e2 w2 ⟨rfl, hb2⟩
        obtain ⟨hcf, hff⟩ := bcells hb2
        have hz2 := hb2.size
        clear c2
        go_wp2
        refine bodyPost_ret (v := .tuple #[.agg #[.slice none 0 0, .string ⟨#[]⟩], .int .i64 n]) (by simp [results, Tryd.results15, go_sem, hcf, r0, r1, hwl]) rfl ?_
        have q3 := jb.trans (hb2.mono jb.size)
        refine ⟨_, by rw [HR.out], by rw [HR.out]; exact strs_nil _, ?_⟩
        repeat (first | exact q3 | refine Below.setCell ?_ (by simp <;> omega) _)
end Go.Proofs.YtbopkepjbifhhaaDoor
