/- coin.Parse: the trace of a text. -/
import Derived.Test.YtbopkepjbifhhaaGreatDoorSlash
import Derived.Test.YtbopkepjbifhhaaGreatDoorHeld
import Derived.Deep.RegionLaw
namespace Go.Proofs.YtbopkepjbifhhaaGreatDoor
open Go.RowKit

theorem partsOf_length (s : ByteArray) : (partsOf s).length = Lib.countB s slash + 1 := Lib.splitB_all slash (by decide) 0 _ s rfl
theorem splitB_size (sep : ByteArray) (save : Nat) : ∀ (k : Nat) (s x : ByteArray), x ∈ Lib.splitB sep save k s → x.size ≤ s.size
  | 0, s, x, h => by simp [Lib.splitB] at h; rw [h]; exact Nat.le_refl _
  | k + 1, s, x, h => by
    unfold Lib.splitB at h
    split at h
    · simp at h; rw [h]; exact Nat.le_refl _
    · rcases List.mem_cons.1 h with rfl | h
      · rw [ByteArray.size_extract]; omega
      · have := splitB_size sep save k _ x h
        rw [ByteArray.size_extract] at this
        omega
theorem partsOf_size (s : ByteArray) (i : Nat) : ((partsOf s).getD i ⟨#[]⟩).size ≤ s.size := by
  by_cases h : i < (partsOf s).length
  · rw [List.getD_eq_getElem?_getD, List.getElem?_eq_getElem h]
    exact splitB_size slash 0 _ s _ (List.getElem_mem h)
  · rw [List.getD_eq_getElem?_getD, List.getElem?_eq_none (by omega)]
    exact Nat.zero_le _
/-- internal/bytealg.MaxLen holds a number. -/
def MaxLenInt (w : World) : Prop := ∃ m, w.cell? ⟨2, 0, none⟩ = some (.int .i64 m)
theorem MaxLenInt.keep {w w' : World} (h : MaxLenInt w) (hb : Below w.heap.size w w') : MaxLenInt w' := by
  obtain ⟨m, hm⟩ := h
  exact ⟨m, (hb.cell (p := ⟨2, 0, none⟩) (cell_lt hm)).trans hm⟩

theorem pathF_get (l : List ByteArray) (k i : Nat) (h : i < k) : (pathF l k)[i]? = some (l.getD (2 * i) ⟨#[]⟩ ++ slash ++ l.getD (2 * i + 1) ⟨#[]⟩) := by
  simp [pathF, h]

set_option maxRecDepth 100000 in
set_option maxHeartbeats 8000000 in
theorem parse_any (s : ByteArray) (w : World) (hs : s.size < 4294967281) (hT : U8Tabs w) (hm : MaxLenInt w) :
    Calls Tryz.prog 9 #[.string s] w (WayPost (parseF s) w) := by
  have hb1 : ∀ o, Below w.heap.size w (w.alloc o) := fun o => below_alloc w o
  have cS : ∀ o, Calls Tryz.prog 29 #[.string s, .string ⟨#[47]⟩] (w.alloc o) fun e w' => e = .returned (.slice (some ⟨w.heap.size + 1, 0, none⟩) (partsOf s).length (partsOf s).length) ∧ w' = (w.alloc o).alloc (.cells ((partsOf s).map Value.string).toArray 9) := fun o => by
    obtain ⟨m, hm⟩ := hm.keep (hb1 o)
    rw [partsOf_length]
    have h := Tryz.strings_Split s ⟨#[47]⟩ m (w.alloc o) hs hm (by decide)
    rw [World.size_alloc] at h
    exact h
  have hpl : (partsOf s).length ≤ 4294967282 := by
    rw [partsOf_length]
    have := Lib.countB_le slash (by decide) s.size s (Nat.le_refl _)
    omega
  have hsz := partsOf_size s
  have HPF : Hid (parseF s = if (fullS (pathF (partsOf s) (((partsOf s).length - 1) / 2)) ((partsOf s).getD ((partsOf s).length - 1) ⟨#[]⟩)).2 = 0 ∧ (fullS (pathF (partsOf s) (((partsOf s).length - 1) / 2)) ((partsOf s).getD ((partsOf s).length - 1) ⟨#[]⟩)).1 = s then ((pathF (partsOf s) (((partsOf s).length - 1) / 2), (partsOf s).getD ((partsOf s).length - 1) ⟨#[]⟩), 0) else (([], ⟨#[]⟩), 40)) := Lib.hid rfl
  obtain ⟨n, hn⟩ : ∃ n, (partsOf s).length = n + 1 := ⟨_, partsOf_length s⟩
  have hcell : ∀ i, i < n + 1 → ((partsOf s).map Value.string).toArray[i]? = some (.string ((partsOf s).getD i ⟨#[]⟩)) := fun i hi => by
    rw [List.getElem?_toArray, List.getElem?_map, List.getElem?_eq_getElem (by omega), List.getD_eq_getElem?_getD, List.getElem?_eq_getElem (by omega)]
    rfl
  rw [hn] at cS hpl HPF
  rw [Nat.add_sub_cancel] at HPF
  clear hn
  generalize partsOf s = l at *
  generalize hcs : (l.map Value.string).toArray = cs at *
  clear hcs
  have c0 : ∀ o i, i < n + 1 → ((w.alloc o).alloc (.cells cs 9)).cell? ⟨w.heap.size + 1, i, none⟩ = some (.string (l.getD i ⟨#[]⟩)) := fun o i hi => (World.cell?_alloc_at _ _ _ _ (by simp)).trans (hcell i hi)
  have cb := fun o => c0 o n (by omega)
  have hbz := hsz n
  generalize l.getD n ⟨#[]⟩ = base at *
  go_enter Tryz.func9, Tryz.ntmps9
  go_wp2_with fail
  refine (cS _).mono ?_
  rintro e w1 ⟨rfl, hw1⟩
  have hb2 : Below w.heap.size w w1 := by rw [hw1]; exact (hb1 _).alloc (by simp) _
  have hz1 : w1.heap.size = w.heap.size + 2 := by rw [hw1]; simp
  have kb : w1.cell? ⟨w.heap.size + 1, n, none⟩ = some (.string base) := by rw [hw1]; exact cb _
  have kp : ∀ i, i < n + 1 → w1.cell? ⟨w.heap.size + 1, i, none⟩ = some (.string (l.getD i ⟨#[]⟩)) := fun i hi => by rw [hw1]; exact c0 _ i hi
  have k0 : w1.cell? ⟨w.heap.size, 0, none⟩ = some (.slice none 0 0) := by rw [hw1]; exact (World.cell?_alloc_lt _ _ ⟨w.heap.size, 0, none⟩ (by simp)).trans (World.cell?_alloc_at _ _ _ _ rfl)
  have k1 : w1.cell? ⟨w.heap.size, 1, none⟩ = some (.string ⟨#[]⟩) := by rw [hw1]; exact (World.cell?_alloc_lt _ _ ⟨w.heap.size, 1, none⟩ (by simp)).trans (World.cell?_alloc_at _ _ _ _ rfl)
  have kf : ∀ o, w1.frozen? ⟨w.heap.size, o, none⟩ = false := fun o => by rw [hw1, World.frozen?_alloc_old _ _ _ (by simp)]; exact World.frozen?_alloc_new _ _ _ o
  clear hw1 cb c0 cS hb1 hcell
  have HZ1 := Lib.hid hz1
  clear hz1
  go_wp2_with fail
  have hlt : w.heap.size + 1 < w1.heap.size := cell_lt kb
  have hbA := below_alloc w1 (.cells #[.slice none 0 0, .string base] 29)
  obtain ⟨hcf, hff⟩ := bcells hbA
  have hB3 := hb2.trans (hbA.mono hb2.size)
  have t0 : (w1.alloc (.cells #[.slice none 0 0, .string base] 29)).cell? ⟨w1.heap.size, 0, none⟩ = some (.slice none 0 0) := World.cell?_alloc_at _ _ _ _ rfl
  have t1 : (w1.alloc (.cells #[.slice none 0 0, .string base] 29)).cell? ⟨w1.heap.size, 1, none⟩ = some (.string base) := World.cell?_alloc_at _ _ _ _ rfl
  have tf : ∀ o, (w1.alloc (.cells #[.slice none 0 0, .string base] 29)).frozen? ⟨w1.heap.size, o, none⟩ = false := fun o => World.frozen?_alloc_new _ _ _ o
  go_loopg [6] (n / 2) (fun k v wq => ∃ (j a : Nat) (A : Option Addr) (c : Nat), j + k = n / 2 ∧ a = 2 * j ∧ v = .int .i64 a ∧ wq.cell? ⟨w1.heap.size, 0, none⟩ = some (.slice A j c) ∧ wq.ownsRow (w1.heap.size + 1) 9 1 (.slice A j c) j ((pathF l j).map Value.string) ∧
    wq.cell? ⟨w1.heap.size, 1, none⟩ = some (.string base) ∧ (∀ o, wq.frozen? ⟨w1.heap.size, o, none⟩ = false) ∧ Below w1.heap.size w1 wq)
  case atStart => exact ⟨0, 0, none, 0, by omega, rfl, rfl, t0, World.ownsRow_nil _ _ _ _, t1, tf, hbA⟩
  case round =>
    clear t0 t1 tf hcf hff hbA hB3
    obtain ⟨j, a, A, c, hj, ha, rfl, t0, ho, t1, tf, hbw⟩ := hrel
    have hgt : w1.heap.size < wr.heap.size := cell_lt t0
    by_cases h2 : a + 2 < n + 1
    · have p0 := (hbw.cell (p := ⟨w.heap.size + 1, a, none⟩) hlt).trans (kp a (by omega))
      have p1 := (hbw.cell (p := ⟨w.heap.size + 1, a + 1, none⟩) hlt).trans (kp (a + 1) (by omega))
      have s0 := hsz a
      have s1 := hsz (a + 1)
      have hnext : pathF l (j + 1) = pathF l j ++ [l.getD a ⟨#[]⟩ ++ slash ++ l.getD (a + 1) ⟨#[]⟩] := by rw [pathF_succ, ha]
      have HN := Lib.hid hnext
      have hj2 : 2 * j + 2 ≤ n := by omega
      have HA := Lib.hid ha
      clear ha
      have i1 : (0 : Int) ≤ (a : Int) := by omega
      have i2 : (a : Int) < (n : Int) + 1 := by omega
      have i3 : (0 : Int) ≤ (a : Int) + 1 := by omega
      have i4 : (a : Int) + 1 < (n : Int) + 1 := by omega
      have i5 : (a : Int) < (n : Int) := by omega
      have i6 : a < n := by omega
      have hpr : w.heap.size + 1 < wr.heap.size := by omega
      obtain ⟨i0, hi0, hz0, hzz1, hzz2⟩ := info_parts infoStr
      clear hnext
      generalize l.getD a ⟨#[]⟩ = x0 at *
      generalize l.getD (a + 1) ⟨#[]⟩ = x1 at *
      have z1 : ¬(9223372036854775807 < x0.size + 1) := by omega
      have z2 : ¬(9223372036854775807 < x0.size + 1 + x1.size) := by omega
      have ew : IntKind.i64.wrap ((a : Int) + 1) = (a : Int) + 1 := by have := IntKind.wrap_i64 ((a : Int) + 1); omega
      have ow1 : (wr.alloc (.cells #[.string (x0 ++ ⟨#[47]⟩ ++ x1)] 9)).drew.ownsRow (w1.heap.size + 1) 9 1 (.slice A j c) j ((pathF l j).map Value.string) := ho.alloc _
      have rw1 : Row (wr.alloc (.cells #[.string (x0 ++ ⟨#[47]⟩ ++ x1)] 9)).drew (.slice (some ⟨wr.heap.size, 0, none⟩) 1 1) 1 1 [.string (x0 ++ ⟨#[47]⟩ ++ x1)] := Row.of_own (own_block (base := wr.heap.size) (heap_alloc_new wr _) (Nat.le_refl _) rfl (by decide))
      have zz1 : w1.heap.size + 1 ≤ (wr.alloc (.cells #[.string (x0 ++ ⟨#[47]⟩ ++ x1)] 9)).drew.heap.size := by simp; omega
      have bx1 : Below (w1.heap.size + 1) wr (wr.alloc (.cells #[.string (x0 ++ ⟨#[47]⟩ ++ x1)] 9)).drew := ((Below.refl _ _).alloc (by omega) _).drew
      have hmx : (j + 1) * 16 ≤ 140737488355328 := by omega
      have hmy : j + 1 ≤ maxLen := by unfold maxLen; omega
      have hone : ∀ u ∈ [Value.string (x0 ++ ⟨#[47]⟩ ++ x1)], u.oneCell' = true := by simp [Value.oneCell']
      go_wp2_with fail
      go_region_law (first
        | (refine step_append_row rfl _ _ 22 rfl (w1.heap.size + 1) 9 i0 (.string ⟨#[]⟩) 1 16 Tryz.underlying22 hi0 hz0 hzz1 hzz2 rfl (by decide) (.slice A j c) j ((pathF l j).map Value.string) rfl ow1 (.slice (some ⟨wr.heap.size, 0, none⟩) 1 1) 1 [.string (x0 ++ ⟨#[47]⟩ ++ x1)] rfl rw1 hone hmy hmx zz1 ?_; intro A1 c1 w2 hown hgrow hat; have hB2 := bx1.grown hgrow zz1 (fun k hk => (ow1.lt k hk).1); have m0 := (hB2.cell (p := ⟨w1.heap.size, 0, none⟩) (Nat.lt_succ_self _)).trans t0; have mf := fun o => (hB2.frozen (p := ⟨w1.heap.size, o, none⟩) (Nat.lt_succ_self _)).trans (tf o)))
      all_goals
        (go_wp2_with fail
         go_roundg (n / 2 - (j + 1))
         case rel =>
           refine ⟨j + 1, a + 2, A1, c1, by omega, by have := HA.out; omega, by simp, World.cell?_setCell_same _ _ _ m0, ?_, (World.cell?_setCell_other _ _ _ _ (by simp)).trans ((hB2.cell (p := ⟨w1.heap.size, 1, none⟩) (Nat.lt_succ_self _)).trans t1), fun o => (World.frozen?_setCell _ _ _ _).trans (mf o), (hbw.trans (hB2.mono (Nat.le_succ _))).setCell (Nat.le_refl _) _⟩
           rw [HN.out, List.map_append]
           exact ownsRow_setCell_below hown (Nat.lt_succ_self _) _
         case measure => omega)
    · have hjn : j = n / 2 := by omega
      have hst : Strs wr (.slice A j c) (pathF l j) := Strs.of_own ho (by rw [pathF_length])
      have hpn : (pathF l j).length = j := pathF_length l j
      have hB := hb2.trans (hbw.mono hb2.size)
      have cF := full_any (.slice A j c) (pathF l j) base wr hst (by omega) (fun x hx => by
        obtain ⟨i, hi, rfl⟩ := List.mem_iff_getElem.1 hx
        have h1 := pathF_get l j i (by omega)
        rw [List.getElem?_eq_getElem hi] at h1
        rw [Option.some.inj h1, ByteArray.size_append, ByteArray.size_append]
        have h2 := hsz (2 * i)
        have h3 := hsz (2 * i + 1)
        have h4 : slash.size = 1 := rfl
        omega) (by omega) (Utf8Tabs_below hT hB)
      rw [← hjn] at HPF
      unfold FullPost at cF
      have hHP : Hid (parseF s = if (fullS (pathF l j) base).2 = 0 ∧ (fullS (pathF l j) base).1 = s then ((pathF l j, base), 0) else (([], ⟨#[]⟩), 40)) := HPF
      have r0 := (hbw.cell (p := ⟨w.heap.size, 0, none⟩) (show w.heap.size < w1.heap.size by omega)).trans k0
      have r1 := (hbw.cell (p := ⟨w.heap.size, 1, none⟩) (show w.heap.size < w1.heap.size by omega)).trans k1
      have rf := fun o => (hbw.frozen (p := ⟨w.heap.size, o, none⟩) (show w.heap.size < w1.heap.size by omega)).trans (kf o)
      have hna : n ≤ a + 1 := by omega
      have hab : a ≤ 4294967282 := by omega
      have hnb : n ≤ 4294967282 := by omega
      have h3 : ¬((a : Int) + 2 < (n : Int) + 1) := by omega
      clear k0 k1 kf kp kb hpn hjn hj ha hpl hsz hbz hHP tf
      generalize fullS (pathF l j) base = F at *
      obtain ⟨fs, fn⟩ := F
      simp only at *
      go_wp2_with fail
      refine cF.mono ?_
      rintro e w5 ⟨ev, rfl, hE, hb5⟩
      have jo2 := own_keep ho hb5
      have hwl : w.heap.size < wr.heap.size := by omega
      have hwl5 : w.heap.size < w5.heap.size := Nat.lt_of_lt_of_le hwl hb5.size
      have hB5 := hB.trans (hb5.mono hB.size)
      replace r0 := (hb5.cell (p := ⟨w.heap.size, 0, none⟩) hwl).trans r0
      replace r1 := (hb5.cell (p := ⟨w.heap.size, 1, none⟩) hwl).trans r1
      replace rf := fun o => (hb5.frozen (p := ⟨w.heap.size, o, none⟩) hwl).trans (rf o)
      have t5 := (hb5.cell (p := ⟨w1.heap.size, 0, none⟩) hgt).trans t0
      have t6 := (hb5.cell (p := ⟨w1.heap.size, 1, none⟩) hgt).trans t1
      clear t0 t1
      by_cases h0 : fn = 0
      · obtain rfl : ev = .nilIface := by subst h0; exact hE.zero
        clear hE
        by_cases hq : fs = s
        · have hq1 : (fs.toList == s.toList) = true := by rw [hq]; simp
          have hr : parseF s = ((pathF l j, base), 0) := by rw [HPF.out, if_pos ⟨h0, hq⟩]
          have HR := Lib.hid hr
          clear hq hr
          go_wp2_with fail
          refine bodyPost_ret (v := .tuple #[.agg #[.slice A j c, .string base], .nilIface]) (by simp [results, Tryz.results9, go_sem, r0, r1]) rfl ?_
          refine ⟨_, _, by rw [HR.out], ?_, by rw [HR.out]; exact .nil_ _, ?_⟩
          · rw [HR.out]
            refine Strs.of_own (base := w1.heap.size + 1) (e := 9) (n := j) ?_ (by rw [pathF_length])
            repeat (first | exact jo2 | refine ownsRow_setCell_below ?_ (by simp <;> omega) _)
          · repeat (first | exact hB5 | refine Below.setCell ?_ (by simp <;> omega) _)
        · have hq1 : (fs.toList == s.toList) = false := by
            rw [beq_eq_false_iff_ne]
            intro h
            exact hq (bytes_ext (by rw [← toList_data, ← toList_data]; exact h))
          have hr : parseF s = (([], ⟨#[]⟩), 40) := by rw [HPF.out, if_neg (by simp [hq])]
          have HR := Lib.hid hr
          clear hq hr
          go_wp2_with fail
          refine (fault_any _ _ _).mono ?_
          rintro e w6 ⟨rfl, rfl⟩
          go_wp2_with fail
          refine bodyPost_ret (v := .tuple #[.agg #[.slice none 0 0, .string ⟨#[]⟩], .iface 67 (.pointer (some ⟨w5.heap.size, 0, none⟩))]) (by simp [results, Tryz.results9, go_sem, r0, r1, hwl5]) rfl ?_
          refine ⟨_, _, by rw [HR.out], by rw [HR.out]; exact strs_nil _, ?_, ?_⟩
          · rw [HR.out]
            exact IsErr.fault (n := 40) (by decide) rfl (by simp)
          · repeat (first | exact hB5 | refine Below.setCell ?_ (by simp <;> omega) _ | refine Below.alloc ?_ (by simp <;> omega) _)
      · obtain ⟨t9, x9, rfl⟩ := hE.iface h0
        clear hE
        have hr : parseF s = (([], ⟨#[]⟩), 40) := by rw [HPF.out, if_neg (by simp [h0])]
        have HR := Lib.hid hr
        clear hr
        go_wp2_with fail
        refine (fault_any _ _ _).mono ?_
        rintro e w6 ⟨rfl, rfl⟩
        go_wp2_with fail
        refine bodyPost_ret (v := .tuple #[.agg #[.slice none 0 0, .string ⟨#[]⟩], .iface 67 (.pointer (some ⟨w5.heap.size, 0, none⟩))]) (by simp [results, Tryz.results9, go_sem, r0, r1, hwl5]) rfl ?_
        refine ⟨_, _, by rw [HR.out], by rw [HR.out]; exact strs_nil _, ?_, ?_⟩
        · rw [HR.out]
          exact IsErr.fault (n := 40) (by decide) rfl (by simp)
        · repeat (first | exact hB5 | refine Below.setCell ?_ (by simp <;> omega) _ | refine Below.alloc ?_ (by simp <;> omega) _)
end Go.Proofs.YtbopkepjbifhhaaGreatDoor
