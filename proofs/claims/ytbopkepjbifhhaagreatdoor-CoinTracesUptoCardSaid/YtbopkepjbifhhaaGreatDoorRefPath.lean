/- isthmusref14.Parse: the document's trace of a text is the program's. -/
import Derived.Test.YtbopkepjbifhhaaGreatDoorScan
import Derived.Test.YtbopkepjbifhhaaGreatDoorHeld
import Derived.Test.YtbopkepjbifhhaaGreatDoorPath
import Derived.Deep.RegionLaw
namespace Go.Proofs.YtbopkepjbifhhaaGreatDoor
open Go.RowKit

theorem odd_base (s : ByteArray) (m : Nat) (p : List ByteArray) (hm : m + 1 = (partsOf s).length) (ho : m % 2 = 1) : (fullS p (s.extract (offN s (m - 1)) s.size)).2 ≠ 0 := by
  intro h
  obtain ⟨_, _, hb, _⟩ := fullS_ok h
  have hc := parts_cut s (m - 1) (by omega)
  rw [show m - 1 + 1 = m by omega, part_last s m hm] at hc
  rw [hc] at hb
  apply baseB_no hb
  simp [slash]
theorem odd_parse (s : ByteArray) (m : Nat) (hm : m + 1 = (partsOf s).length) (ho : m % 2 = 1) : parseF s = (([], ⟨#[]⟩), 40) := by
  unfold parseF
  by_cases h : (fullS (pathF (partsOf s) (((partsOf s).length - 1) / 2)) ((partsOf s).getD ((partsOf s).length - 1) ⟨#[]⟩)).2 = 0 ∧ (fullS (pathF (partsOf s) (((partsOf s).length - 1) / 2)) ((partsOf s).getD ((partsOf s).length - 1) ⟨#[]⟩)).1 = s
  · exfalso
    obtain ⟨_, h2, h3, h4⟩ := fullS_ok h.1
    rw [h.2] at h4
    have h5 := parts_join _ _ h2 h3
    rw [← h4] at h5
    have h6 := congrArg List.length h5
    rw [List.length_append, flatten_two] at h6
    simp only [List.length_cons, List.length_nil] at h6
    omega
  · simp only [h, if_false]
theorem even_parse (s : ByteArray) (m : Nat) (hm : m + 1 = (partsOf s).length) : parseF s = if (fullS (pathF (partsOf s) (m / 2)) (partN s m)).2 = 0 ∧ (fullS (pathF (partsOf s) (m / 2)) (partN s m)).1 = s then ((pathF (partsOf s) (m / 2), partN s m), 0) else (([], ⟨#[]⟩), 40) := by
  unfold parseF partN
  simp only [← hm, Nat.add_sub_cancel]
/-- The base that is left, and the answer. -/
theorem rest_parse (s : ByteArray) (m : Nat) (hm : m + 1 = (partsOf s).length) :
    parseF s = if (fullS (pathF (partsOf s) (m / 2)) (s.extract (offN s (2 * (m / 2))) s.size)).2 = 0 ∧ (fullS (pathF (partsOf s) (m / 2)) (s.extract (offN s (2 * (m / 2))) s.size)).1 = s then ((pathF (partsOf s) (m / 2), s.extract (offN s (2 * (m / 2))) s.size), 0) else (([], ⟨#[]⟩), 40) := by
  rcases Nat.mod_two_eq_zero_or_one m with h | h
  · have hc := part_cut s m (by omega)
    rw [part_last s m hm] at hc
    rw [show 2 * (m / 2) = m by omega, hc]
    exact even_parse s m hm
  · rw [show 2 * (m / 2) = m - 1 by omega, if_neg (fun hh => odd_base s m _ hm h hh.1)]
    exact odd_parse s m hm h

def RefPathPost (r : (List ByteArray × ByteArray) × Int) (w : World) (e : Ending) (w' : World) : Prop :=
  ∃ v, e = .returned (.tuple #[.agg #[v, .string r.1.2], .int .i64 r.2]) ∧ Strs w' v r.1.1 ∧ Below w.heap.size w w'

set_option maxRecDepth 100000 in
set_option maxHeartbeats 8000000 in
theorem refPath_any (s : ByteArray) (w : World) (hs : s.size < 4294967281) :
    Calls Tryz.prog 10 #[.string s] w (RefPathPost (parseF s) w) := by
  have hb0 := below_alloc w (.cells #[.slice none 0 0, .string ⟨#[]⟩] 24)
  have r0 : (w.alloc (.cells #[.slice none 0 0, .string ⟨#[]⟩] 24)).cell? ⟨w.heap.size, 0, none⟩ = some (.slice none 0 0) := World.cell?_alloc_at _ _ _ _ rfl
  have r1 : (w.alloc (.cells #[.slice none 0 0, .string ⟨#[]⟩] 24)).cell? ⟨w.heap.size, 1, none⟩ = some (.string ⟨#[]⟩) := World.cell?_alloc_at _ _ _ _ rfl
  have rf : ∀ o, (w.alloc (.cells #[.slice none 0 0, .string ⟨#[]⟩] 24)).frozen? ⟨w.heap.size, o, none⟩ = false := fun o => World.frozen?_alloc_new _ _ _ o
  have hz0 : (w.alloc (.cells #[.slice none 0 0, .string ⟨#[]⟩] 24)).heap.size = w.heap.size + 1 := World.size_alloc _ _
  have hpos : 0 < (partsOf s).length := by rw [partsOf_length]; omega
  have hpl : (partsOf s).length ≤ 4294967282 := by
    rw [partsOf_length]
    have := Lib.countB_le slash (by decide) s.size s (Nat.le_refl _)
    omega
  go_enter Tryz.func10, Tryz.ntmps10
  generalize hW0 : w.alloc (.cells #[.slice none 0 0, .string ⟨#[]⟩] 24) = W0 at *
  go_wp2_with fail
  clear hW0
  have hbT := below_alloc W0 (.cells #[.slice none 0 0, .string ⟨#[]⟩] 24)
  have t0 : (W0.alloc (.cells #[.slice none 0 0, .string ⟨#[]⟩] 24)).cell? ⟨w.heap.size + 1, 0, none⟩ = some (.slice none 0 0) := World.cell?_alloc_at _ _ _ _ (by simp [hz0])
  have t1 : (W0.alloc (.cells #[.slice none 0 0, .string ⟨#[]⟩] 24)).cell? ⟨w.heap.size + 1, 1, none⟩ = some (.string ⟨#[]⟩) := World.cell?_alloc_at _ _ _ _ (by simp [hz0])
  have tf : ∀ o, (W0.alloc (.cells #[.slice none 0 0, .string ⟨#[]⟩] 24)).frozen? ⟨w.heap.size + 1, o, none⟩ = false := fun o => by have := World.frozen?_alloc_new (w := W0) #[.slice none 0 0, .string ⟨#[]⟩] 24 o; rw [hz0] at this; exact this
  have hRW : w.heap.size < W0.heap.size := by omega
  have HZ0 := Lib.hid hz0
  clear hz0
  go_loopg [5, 6, 7] s.size (fun k v5 v6 v7 wq => ∃ (i m fr q : Nat) (A : Option Addr) (c : Nat), i + k = s.size ∧ m + 1 ≤ (partsOf s).length ∧ offN s m ≤ i ∧ i ≤ offN s m + (partN s m).size ∧ q = m / 2 ∧ fr = offN s (2 * q) ∧ v5 = .int .i64 fr ∧ v6 = .int .i64 m ∧ v7 = .int .i64 i ∧
    wq.cell? ⟨w.heap.size + 1, 0, none⟩ = some (.slice A q c) ∧ wq.ownsRow (w.heap.size + 2) 9 1 (.slice A q c) q ((pathF (partsOf s) q).map Value.string) ∧ wq.cell? ⟨w.heap.size + 1, 1, none⟩ = some (.string ⟨#[]⟩) ∧ (∀ o, wq.frozen? ⟨w.heap.size + 1, o, none⟩ = false) ∧ Below W0.heap.size W0 wq)
  case atStart => exact ⟨0, 0, 0, 0, none, 0, by omega, hpos, Nat.le_refl _, Nat.zero_le _, rfl, rfl, rfl, rfl, rfl, t0, World.ownsRow_nil _ _ _ _, t1, tf, hbT⟩
  case round =>
    clear t0 t1 tf hbT hpos
    obtain ⟨i, m, fr, q, A, c, hk, hm, ho1, ho2, hq, hfr, rfl, rfl, rfl, t0, ho, t1, tf, hbw⟩ := hrel
    have hTl : w.heap.size + 1 < wr.heap.size := cell_lt t0
    have hpw : q ≤ 4294967282 := by omega
    by_cases hlt : i < s.size
    · have hfri : fr ≤ i := by
        rw [hfr]
        rcases Nat.mod_two_eq_zero_or_one m with h | h
        · rw [show 2 * q = m by omega]; exact ho1
        · have := offN_succ s (m - 1)
          rw [show m - 1 + 1 = m by omega] at this
          rw [show 2 * q = m - 1 by omega]
          omega
      have hgx : s[i]? = some s[i] := by simp [hlt]
      by_cases hsl : i = offN s m + (partN s m).size
      · have hm2 : m + 1 < (partsOf s).length := by
          rcases Nat.lt_or_ge (m + 1) (partsOf s).length with h | h
          · exact h
          · have := part_last s m (by omega)
            omega
        have h47 : s[i] = 47 := by
          have := part_slash s m hm2 (by omega)
          simpa [← hsl] using this
        have h47i : (s[i].toNat : Int) = 47 := by rw [h47]; rfl
        have hoff := offN_succ s m
        by_cases hpar : (m + 1) % 2 = 0
        · have hpi : ((m : Int) + 1) % 2 = 0 := by omega
          have hcut : s.extract fr i = partN s (m - 1) ++ slash ++ partN s m := by
            have := parts_cut s (m - 1) (by omega)
            rw [show m - 1 + 1 = m by omega] at this
            rw [hfr, show 2 * q = m - 1 by omega, hsl, this]
          have hnext : pathF (partsOf s) (q + 1) = pathF (partsOf s) q ++ [s.extract fr i] := by
            rw [pathF_succ, hcut, show 2 * q = m - 1 by omega, show m - 1 + 1 = m by omega]
            rfl
          have hq2 : q + 1 = (m + 1) / 2 := by omega
          have hfr2 : i + 1 = offN s (2 * (q + 1)) := by rw [show 2 * (q + 1) = m + 1 by omega, hoff, hsl]
          have hm3 : m + 1 + 1 ≤ (partsOf s).length := by omega
          have ho3 : offN s (m + 1) ≤ i + 1 := by omega
          have ho4 : i + 1 ≤ offN s (m + 1) + (partN s (m + 1)).size := by omega
          have HN := Lib.hid hnext
          have H1 := Lib.hid (And.intro hq2 (And.intro hfr2 (And.intro hm3 (And.intro ho3 ho4))))
          obtain ⟨i0, hi0, hz0, hzz1, hzz2⟩ := info_parts infoStr
          have hmm : m ≤ 4294967282 := by omega
          have HK := Lib.hid hk
          clear hnext hq2 hfr2 hm3 ho3 ho4 hcut hq hfr hm hm2 ho1 ho2 hsl h47 hoff hpar hpl hk
          have ow1 : (wr.alloc (.cells #[.string (s.extract fr i)] 9)).drew.ownsRow (w.heap.size + 2) 9 1 (.slice A q c) q ((pathF (partsOf s) q).map Value.string) := ho.alloc _
          have rw1 : Row (wr.alloc (.cells #[.string (s.extract fr i)] 9)).drew (.slice (some ⟨wr.heap.size, 0, none⟩) 1 1) 1 1 [.string (s.extract fr i)] := Row.of_own (own_block (base := wr.heap.size) (heap_alloc_new wr _) (Nat.le_refl _) rfl (by decide))
          have zz1 : w.heap.size + 2 ≤ (wr.alloc (.cells #[.string (s.extract fr i)] 9)).drew.heap.size := by simp; omega
          have bx1 : Below (w.heap.size + 2) wr (wr.alloc (.cells #[.string (s.extract fr i)] 9)).drew := ((Below.refl _ _).alloc (by omega) _).drew
          have hmx : (q + 1) * 16 ≤ 140737488355328 := by omega
          have hmy : q + 1 ≤ maxLen := by unfold maxLen; omega
          have hone : ∀ u ∈ [Value.string (s.extract fr i)], u.oneCell' = true := by simp [Value.oneCell']
          have x1 : (fr : Int) ≤ (i : Int) := by omega
          have x2 : (i : Int) ≤ (s.size : Int) := by omega
          go_wp2_with fail
          go_region_law (first
            | (refine step_append_row rfl _ _ 22 rfl (w.heap.size + 2) 9 i0 (.string ⟨#[]⟩) 1 16 Tryz.underlying22 hi0 hz0 hzz1 hzz2 rfl (by decide) (.slice A q c) q ((pathF (partsOf s) q).map Value.string) rfl ow1 (.slice (some ⟨wr.heap.size, 0, none⟩) 1 1) 1 [.string (s.extract fr i)] rfl rw1 hone hmy hmx zz1 ?_; intro A1 c1 w2 hown hgrow hat; have hB2 := bx1.grown hgrow zz1 (fun k hk => (ow1.lt k hk).1); have m0 := (hB2.cell (p := ⟨w.heap.size + 1, 0, none⟩) (Nat.lt_succ_self _)).trans t0; have mf := fun o => (hB2.frozen (p := ⟨w.heap.size + 1, o, none⟩) (Nat.lt_succ_self _)).trans (tf o)))
          all_goals
            (go_wp2_with fail
             go_roundg (s.size - (i + 1))
             case rel =>
               obtain ⟨hq2, hfr2, hm3, ho3, ho4⟩ := H1.out
               refine ⟨i + 1, m + 1, i + 1, q + 1, A1, c1, by omega, hm3, ho3, ho4, hq2, hfr2, by simp, by simp, by simp, World.cell?_setCell_same _ _ _ m0, ?_, (World.cell?_setCell_other _ _ _ _ (by simp)).trans ((hB2.cell (p := ⟨w.heap.size + 1, 1, none⟩) (Nat.lt_succ_self _)).trans t1), fun o => (World.frozen?_setCell _ _ _ _).trans (mf o), (hbw.trans (hB2.mono (by have := HZ0.out; omega))).setCell (by have := HZ0.out; simp; omega) _⟩
               rw [HN.out, List.map_append]
               exact ownsRow_setCell_below hown (Nat.lt_succ_self _) _
             case measure => have := HK.out; omega)
        · have hpi : ¬(((m : Int) + 1) % 2 = 0) := by omega
          have hmm : m ≤ 4294967282 := by omega
          have H1 : Hid (q = (m + 1) / 2 ∧ m + 1 + 1 ≤ (partsOf s).length ∧ offN s (m + 1) ≤ i + 1 ∧ i + 1 ≤ offN s (m + 1) + (partN s (m + 1)).size) := Lib.hid ⟨by omega, by omega, by omega, by omega⟩
          have HF := Lib.hid hfr
          have HK := Lib.hid hk
          clear hq hfr hm hm2 ho1 ho2 hsl h47 hoff hpar hpl hk
          go_wp2_with fail
          go_roundg (s.size - (i + 1))
          case rel =>
            obtain ⟨h1, h2, h3, h4⟩ := H1.out
            exact ⟨i + 1, m + 1, fr, q, A, c, by omega, h2, h3, h4, h1, HF.out, rfl, by simp, by simp, t0, ho, t1, tf, hbw⟩
          case measure => have := HK.out; omega
      · have h47 : s[i] ≠ 47 := part_byte s m i (by omega) ho1 (by omega) hlt
        have h47i : ¬((s[i].toNat : Int) = 47) := fun h => h47 (UInt8.toNat_inj.1 (by show s[i].toNat = 47; omega))
        have H1 := Lib.hid (And.intro hq (And.intro hm (And.intro ho1 (And.intro ho2 hsl))))
        have HF := Lib.hid hfr
        have HK := Lib.hid hk
        clear hq hfr hm ho1 ho2 hsl h47 hpl hk
        go_wp2_with fail
        go_roundg (s.size - (i + 1))
        case rel =>
          obtain ⟨h1, h2, h3, h4, h5⟩ := H1.out
          exact ⟨i + 1, m, fr, q, A, c, by omega, h2, by omega, by omega, h1, HF.out, rfl, rfl, by simp, t0, ho, t1, tf, hbw⟩
        case measure => have := HK.out; omega
    · have him : i = s.size := by omega
      have hmN : m + 1 = (partsOf s).length := by
        rcases Nat.lt_or_ge (m + 1) (partsOf s).length with h | h
        · have h1 := part_le s (m + 1) h
          have h2 := offN_succ s m
          omega
        · omega
      have hrest := rest_parse s m hmN
      rw [← hq, ← hfr] at hrest
      have hst : Strs wr (.slice A q c) (pathF (partsOf s) q) := Strs.of_own ho (by rw [pathF_length])
      have hplen : (pathF (partsOf s) q).length = q := pathF_length _ _
      have hfrs : fr ≤ s.size := by
        rw [hfr]
        rcases Nat.mod_two_eq_zero_or_one m with h | h
        · rw [show 2 * q = m by omega]; omega
        · have := offN_succ s (m - 1)
          rw [show m - 1 + 1 = m by omega] at this
          rw [show 2 * q = m - 1 by omega]
          omega
      have hps : ∀ x ∈ pathF (partsOf s) q, x.size ≤ 9223372036854775807 := fun x hx => by
        obtain ⟨k, hk2, rfl⟩ := List.mem_iff_getElem.1 hx
        have h1 := pathF_get (partsOf s) q k (by omega)
        rw [List.getElem?_eq_getElem hk2] at h1
        rw [Option.some.inj h1, ByteArray.size_append, ByteArray.size_append]
        have h2 := partsOf_size s (2 * k)
        have h3 := partsOf_size s (2 * k + 1)
        have h4 : slash.size = 1 := rfl
        omega
      have hbs : (s.extract fr s.size).size ≤ 9223372036854775807 := by rw [ByteArray.size_extract]; omega
      have howB := ownsRow_setCell_below (a := ⟨w.heap.size + 1, 1, none⟩) ho (show w.heap.size + 1 < w.heap.size + 2 by omega) (.string (s.extract fr s.size))
      have hstB : Strs (wr.setCell ⟨w.heap.size + 1, 1, none⟩ (.string (s.extract fr s.size))) (.slice A q c) (pathF (partsOf s) q) := Strs.of_own howB (by rw [pathF_length])
      have cF := refFull_any _ _ _ _ hstB (by omega) hps hbs
      unfold RefFullPost at cF
      have T0 : (wr.setCell ⟨w.heap.size + 1, 1, none⟩ (.string (s.extract fr s.size))).cell? ⟨w.heap.size + 1, 0, none⟩ = some (.slice A q c) := (World.cell?_setCell_other _ _ _ _ (by simp)).trans t0
      have T1 : (wr.setCell ⟨w.heap.size + 1, 1, none⟩ (.string (s.extract fr s.size))).cell? ⟨w.heap.size + 1, 1, none⟩ = some (.string (s.extract fr s.size)) := World.cell?_setCell_same _ _ _ t1
      have q0 := (hbw.cell (p := ⟨w.heap.size, 0, none⟩) hRW).trans r0
      have q1 := (hbw.cell (p := ⟨w.heap.size, 1, none⟩) hRW).trans r1
      have qf := fun o => (hbw.frozen (p := ⟨w.heap.size, o, none⟩) hRW).trans (rf o)
      have Q0 : (wr.setCell ⟨w.heap.size + 1, 1, none⟩ (.string (s.extract fr s.size))).cell? ⟨w.heap.size, 0, none⟩ = some (.slice none 0 0) := (World.cell?_setCell_other _ _ _ _ (by simp)).trans q0
      have Q1 : (wr.setCell ⟨w.heap.size + 1, 1, none⟩ (.string (s.extract fr s.size))).cell? ⟨w.heap.size, 1, none⟩ = some (.string ⟨#[]⟩) := (World.cell?_setCell_other _ _ _ _ (by simp)).trans q1
      have Qf : ∀ o, (wr.setCell ⟨w.heap.size + 1, 1, none⟩ (.string (s.extract fr s.size))).frozen? ⟨w.heap.size, o, none⟩ = false := fun o => (World.frozen?_setCell _ _ _ _).trans (qf o)
      have hsizeW : (wr.setCell ⟨w.heap.size + 1, 1, none⟩ (.string (s.extract fr s.size))).heap.size = wr.heap.size := by simp [World.setCell]
      have hWb : Below w.heap.size w (wr.setCell ⟨w.heap.size + 1, 1, none⟩ (.string (s.extract fr s.size))) := (hb0.trans (hbw.mono hb0.size)).setCell (by simp) _
      have y1 : (fr : Int) ≤ (s.size : Int) := by omega
      have y2 : ¬((i : Int) < (s.size : Int)) := by omega
      have HPF := Lib.hid hrest
      clear hrest hq hfr hm hk ho1 ho2 him hmN hps hpl hst hplen hlt q0 q1 qf r0 r1 rf hbw hb0 hfrs
      have hTW : w.heap.size + 1 < (wr.setCell ⟨w.heap.size + 1, 1, none⟩ (.string (s.extract fr s.size))).heap.size := cell_lt T0
      have HTW := Lib.hid hTW
      clear hTW hsizeW
      go_wp2_with fail
      generalize wr.setCell ⟨w.heap.size + 1, 1, none⟩ (.string (s.extract fr s.size)) = W at *
      have hTW := HTW.out
      go_wp2_with fail
      refine cF.mono ?_
      rintro e w5 ⟨rfl, hb5⟩
      have hT5 : w.heap.size + 1 < w5.heap.size := Nat.lt_of_lt_of_le hTW hb5.size
      have hR5 : w.heap.size < w5.heap.size := by omega
      replace T0 := (hb5.cell (p := ⟨w.heap.size + 1, 0, none⟩) hTW).trans T0
      replace T1 := (hb5.cell (p := ⟨w.heap.size + 1, 1, none⟩) hTW).trans T1
      replace Q0 := (hb5.cell (p := ⟨w.heap.size, 0, none⟩) (show w.heap.size < W.heap.size by omega)).trans Q0
      replace Q1 := (hb5.cell (p := ⟨w.heap.size, 1, none⟩) (show w.heap.size < W.heap.size by omega)).trans Q1
      replace Qf := fun o => (hb5.frozen (p := ⟨w.heap.size, o, none⟩) (show w.heap.size < W.heap.size by omega)).trans (Qf o)
      have jo := own_keep howB hb5
      have hB5 := hWb.trans (hb5.mono hWb.size)
      generalize fullS (pathF (partsOf s) q) (s.extract fr s.size) = F at *
      obtain ⟨fs, fn⟩ := F
      simp only at *
      clear hstB howB hb5 t0 t1 tf ho cF
      by_cases h0 : fn = 0
      · by_cases hqs : fs = s
        · have hq1 : (fs.toList == s.toList) = true := by rw [hqs]; simp
          have HR := Lib.hid (HPF.out.trans (if_pos ⟨h0, hqs⟩))
          clear hqs
          subst h0
          go_wp2_with fail
          refine bodyPost_ret (v := .tuple #[.agg #[.slice A q c, .string (s.extract fr s.size)], .int .i64 0]) (by simp [results, Tryz.results10, go_sem, Q0, Q1]) rfl ?_
          refine ⟨_, by rw [HR.out], ?_, ?_⟩
          · rw [HR.out]
            refine Strs.of_own (base := w.heap.size + 2) (e := 9) (n := q) ?_ (by rw [pathF_length])
            repeat (first | exact jo | refine ownsRow_setCell_below ?_ (by simp <;> omega) _)
          · repeat (first | exact hB5 | refine Below.setCell ?_ (by simp <;> omega) _)
        · have hq1 : (fs.toList == s.toList) = false := by
            rw [beq_eq_false_iff_ne]
            intro h
            exact hqs (bytes_ext (by rw [← toList_data, ← toList_data]; exact h))
          have HR := Lib.hid (HPF.out.trans (if_neg (fun h => hqs h.2)))
          clear hqs
          subst h0
          go_wp2_with fail
          refine bodyPost_ret (v := .tuple #[.agg #[.slice none 0 0, .string ⟨#[]⟩], .int .i64 40]) (by simp [results, Tryz.results10, go_sem, Q0, Q1]) rfl ?_
          refine ⟨_, by rw [HR.out], by rw [HR.out]; exact strs_nil _, ?_⟩
          repeat (first | exact hB5 | refine Below.setCell ?_ (by simp <;> omega) _)
      · have HR := Lib.hid (HPF.out.trans (if_neg (fun h => h0 h.1)))
        go_wp2_with fail
        refine bodyPost_ret (v := .tuple #[.agg #[.slice none 0 0, .string ⟨#[]⟩], .int .i64 40]) (by simp [results, Tryz.results10, go_sem, Q0, Q1]) rfl ?_
        refine ⟨_, by rw [HR.out], by rw [HR.out]; exact strs_nil _, ?_⟩
        repeat (first | exact hB5 | refine Below.setCell ?_ (by simp <;> omega) _)
end Go.Proofs.YtbopkepjbifhhaaGreatDoor
