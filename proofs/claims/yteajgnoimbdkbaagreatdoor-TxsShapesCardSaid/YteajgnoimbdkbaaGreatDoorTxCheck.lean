/- txs.Check: may a transaction be? -/
import Derived.Test.YteajgnoimbdkbaaGreatDoorMsgCheck
import Derived.Test.YteajgnoimbdkbaaGreatDoorNamed
import Derived.Test.YteajgnoimbdkbaaGreatDoorCheck
namespace Go.Proofs.YteajgnoimbdkbaaGreatDoor
open Go.RowKit

def MsgSmall (m : MsgD) : Prop := m.texts.length ≤ 1048576 ∧ m.ints.length ≤ 1048576 ∧ m.data.length ≤ 1048576 ∧ (∀ t ∈ m.texts, t.length ≤ 1048576) ∧ ∀ t ∈ m.data, t.length ≤ 1048576
def TxSmall (x : TxD) : Prop := x.account.length ≤ 1048576 ∧ x.denom.length ≤ 1048576 ∧ x.msgs.length ≤ 1048576 ∧ x.sign.length ≤ 1048576 ∧ ∀ m ∈ x.msgs, MsgSmall m
/-- The first error's number of messages, 0 if there is none. -/
def msgsN : List MsgD → Int
  | [] => 0
  | m :: r => if msgN m ≠ 0 then msgN m else msgsN r
theorem msgsN_at : ∀ (l : List MsgD) (i : Nat) (m : MsgD), (∀ (j : Nat) (u : MsgD), j < i → l[j]? = some u → msgN u = 0) → l[i]? = some m → msgN m ≠ 0 → msgsN l = msgN m
  | [], i, m, _, h, _ => by simp at h
  | a :: l, 0, m, _, h, h0 => by
    obtain rfl : a = m := by simpa using h
    rw [msgsN, if_pos h0]
  | a :: l, i + 1, m, hz, h, h0 => by
    have ha := hz 0 a (by omega) rfl
    rw [msgsN, if_neg (by simp [ha])]
    exact msgsN_at l i m (fun j u hj hu => hz (j + 1) u (by omega) (by simpa using hu)) (by simpa using h) h0
theorem msgsN_none : ∀ (l : List MsgD), (∀ (j : Nat) (u : MsgD), l[j]? = some u → msgN u = 0) → msgsN l = 0
  | [], _ => rfl
  | a :: l, hz => by
    have ha := hz 0 a rfl
    rw [msgsN, if_neg (by simp [ha])]
    exact msgsN_none l (fun j u hu => hz (j + 1) u (by simpa using hu))
def seqB (n : Int) : Bool := decide (0 ≤ n) && decide (n ≤ 1099511627776)
def feeB (n : Int) : Bool := decide (0 ≤ n) && decide (n ≤ 1152921504606846976)
/-- The number of a transaction's error, 0 if there is none. -/
def txN (x : TxD) : Int :=
  if nameB (strOf x.account) = false then 42 else if seqB x.seq = false then 43 else if checkF (strOf x.denom) ≠ 0 then checkF (strOf x.denom) else if feeB x.amount = false then 44
  else if x.msgs.length = 0 ∨ 8 < x.msgs.length then 1 else if msgsN x.msgs ≠ 0 then msgsN x.msgs else if 8192 < x.sign.length then 2 else 0

theorem Msgs.form {w : World} {v : Value} {l : List MsgD} (h : Msgs w v l) : ∃ A c, v = .slice A l.length c := by
  obtain ⟨_, h, _⟩ := h
  exact h.form
theorem Six.cells {w w2 : World} {t : TypeId} {a b c d e f : Value} (hb : Below (w.heap.size + 1) (w.alloc (.cells #[a, b, c, d, e, f] t)) w2) :
    w2.cell? ⟨w.heap.size, 0, none⟩ = some a ∧ w2.cell? ⟨w.heap.size, 1, none⟩ = some b ∧ w2.cell? ⟨w.heap.size, 2, none⟩ = some c ∧ w2.cell? ⟨w.heap.size, 3, none⟩ = some d ∧ w2.cell? ⟨w.heap.size, 4, none⟩ = some e ∧ w2.cell? ⟨w.heap.size, 5, none⟩ = some f := by
  refine ⟨?_, ?_, ?_, ?_, ?_, ?_⟩ <;> exact (hb.cell (by simp)).trans (World.cell?_alloc_at _ _ _ _ rfl)

set_option maxRecDepth 100000 in
set_option maxHeartbeats 4000000 in
theorem txCheck_any (v : Value) (x : TxD) (w : World) (h : TxAt w v x) (hs : TxSmall x) (hT : U8Tabs w) (hM : MaxLenAt w) :
    Calls Tryz.prog 9 #[v] w (ErrPost (txN x) w) := by
  obtain ⟨ms, sg, rfl, h1, h2⟩ := h
  obtain ⟨s1, s2, s3, s4, s5⟩ := hs
  obtain ⟨A1, c1, rfl⟩ := h1.form
  obtain ⟨A2, c2, rfl⟩ := h2.form
  unfold txV
  have hb1 := below_alloc w (.cells #[.string (strOf x.account), .int .i64 x.seq, .string (strOf x.denom), .int .i64 x.amount, .slice A1 x.msgs.length c1, .slice A2 x.sign.length c2] 29)
  have cN := named_any (strOf x.account) _ (by rw [strOf_size]; omega) (hM.keep hb1)
  have cC := fun W hW => check_any (strOf x.denom) W (by rw [strOf_size]; omega) (Utf8Tabs_below hT hW)
  have h1' := h1.keep hb1
  unfold BoolPost at cN
  unfold CheckPost at cC
  have HD : Hid (txN x = if nameB (strOf x.account) = false then 42 else if seqB x.seq = false then 43 else if checkF (strOf x.denom) ≠ 0 then checkF (strOf x.denom) else if feeB x.amount = false then 44
  else if x.msgs.length = 0 ∨ 8 < x.msgs.length then 1 else if msgsN x.msgs ≠ 0 then msgsN x.msgs else if 8192 < x.sign.length then 2 else 0) := Lib.hid rfl
  cases hn : nameB (strOf x.account)
  · rw [hn] at cN HD
    have HR : Hid (txN x = 42) := Lib.hid (by rw [HD.out]; rfl)
    clear HD hn
    go_enter Tryz.func9, Tryz.ntmps9
    go_wp2_with fail
    refine cN.mono ?_
    rintro e w2 ⟨rfl, hb2⟩
    have q2 := hb1.trans (hb2.mono hb1.size)
    go_wp2_with fail
    refine (txFault_any _ _ _).mono ?_
    rintro e w3 ⟨rfl, rfl⟩
    go_wp2_with fail
    go_ret
    exact ⟨_, rfl, by rw [HR.out]; exact IsErr.fault (by decide) rfl rfl, q2.alloc q2.size _⟩
  · rw [hn] at cN HD
    cases hq : seqB x.seq
    · have HR : Hid (txN x = 43) := Lib.hid (by rw [HD.out, hq]; rfl)
      have hc : x.seq < 0 ∨ (¬x.seq < 0 ∧ 1099511627776 < x.seq) := by
        simp only [seqB, Bool.and_eq_false_iff, decide_eq_false_iff_not] at hq
        omega
      clear HD hn hq
      generalize x.seq = n at *
      rcases hc with hc | ⟨hc, hc2⟩
      all_goals
        go_enter Tryz.func9, Tryz.ntmps9
        go_wp2_with fail
        refine cN.mono ?_
        rintro e w2 ⟨rfl, hb2⟩
        have q2 := hb1.trans (hb2.mono hb1.size)
        obtain ⟨k0, k1, k2, k3, k4, k5⟩ := Six.cells (by simpa using hb2)
        go_wp2_with fail
        refine (txFault_any _ _ _).mono ?_
        rintro e w3 ⟨rfl, rfl⟩
        go_wp2_with fail
        go_ret
        exact ⟨_, rfl, by rw [HR.out]; exact IsErr.fault (by decide) rfl rfl, q2.alloc q2.size _⟩
    · rw [hq] at HD
      simp only [seqB, Bool.and_eq_true, decide_eq_true_eq] at hq
      have qs : ¬x.seq < 0 := by omega
      have qs2 : ¬(1099511627776 < x.seq) := by omega
      by_cases hcf : checkF (strOf x.denom) = 0
      · rw [hcf] at HD cC
        rw [if_neg (by simp), if_neg (by simp), if_neg (by simp)] at HD
        cases hfe : feeB x.amount
        · have HR : Hid (txN x = 44) := Lib.hid (by rw [HD.out, hfe]; rfl)
          have hc : x.amount < 0 ∨ (¬x.amount < 0 ∧ 1152921504606846976 < x.amount) := by
            simp only [feeB, Bool.and_eq_false_iff, decide_eq_false_iff_not] at hfe
            omega
          clear HD hn hq hfe hcf
          generalize x.seq = n at *
          generalize x.amount = a at *
          rcases hc with hc | ⟨hc, hc2⟩
          all_goals
            go_enter Tryz.func9, Tryz.ntmps9
            go_wp2_with fail
            refine cN.mono ?_
            rintro e w2 ⟨rfl, hb2⟩
            have q2 := hb1.trans (hb2.mono hb1.size)
            obtain ⟨k0, k1, k2, k3, k4, k5⟩ := Six.cells (by simpa using hb2)
            go_wp2_with fail
            refine (cC _ q2).mono ?_
            rintro e w3 ⟨ev, rfl, hE, hb3⟩
            obtain rfl := hE.zero
            have q3 := q2.trans (hb3.mono q2.size)
            have hb23 := hb2.trans (hb3.mono hb2.size)
            clear k0 k1 k2 k3 k4 k5
            obtain ⟨k0, k1, k2, k3, k4, k5⟩ := Six.cells (by simpa using hb23)
            go_wp2_with fail
            refine (txFault_any _ _ _).mono ?_
            rintro e w4 ⟨rfl, rfl⟩
            go_wp2_with fail
            go_ret
            exact ⟨_, rfl, by rw [HR.out]; exact IsErr.fault (by decide) rfl rfl, q3.alloc q3.size _⟩
        · rw [hfe] at HD
          rw [if_neg (by simp)] at HD
          simp only [feeB, Bool.and_eq_true, decide_eq_true_eq] at hfe
          have qa : ¬x.amount < 0 := by omega
          have qa2 : ¬(1152921504606846976 < x.amount) := by omega
          by_cases hlen : x.msgs.length = 0 ∨ 8 < x.msgs.length
          · have HR : Hid (txN x = 1) := Lib.hid (by rw [HD.out, if_pos hlen])
            clear HD hn hq hfe hcf
            have hc : x.msgs.length = 0 ∨ (¬x.msgs.length = 0 ∧ (8 : Int) < (x.msgs.length : Int)) := by omega
            clear hlen
            generalize x.seq = n at *
            generalize x.amount = a at *
            generalize x.msgs.length = L at *
            rcases hc with rfl | ⟨hc, hc2⟩
            all_goals
              go_enter Tryz.func9, Tryz.ntmps9
              go_wp2_with fail
              refine cN.mono ?_
              rintro e w2 ⟨rfl, hb2⟩
              have q2 := hb1.trans (hb2.mono hb1.size)
              obtain ⟨k0, k1, k2, k3, k4, k5⟩ := Six.cells (by simpa using hb2)
              go_wp2_with fail
              refine (cC _ q2).mono ?_
              rintro e w3 ⟨ev, rfl, hE, hb3⟩
              obtain rfl := hE.zero
              have q3 := q2.trans (hb3.mono q2.size)
              have hb23 := hb2.trans (hb3.mono hb2.size)
              clear k0 k1 k2 k3 k4 k5
              obtain ⟨k0, k1, k2, k3, k4, k5⟩ := Six.cells (by simpa using hb23)
              go_wp2_with fail
              refine (txFault_any _ _ _).mono ?_
              rintro e w4 ⟨rfl, rfl⟩
              go_wp2_with fail
              go_ret
              exact ⟨_, rfl, by rw [HR.out]; exact IsErr.fault (by decide) rfl rfl, q3.alloc q3.size _⟩
          · rw [if_neg hlen] at HD
            have ql : ¬x.msgs.length = 0 := by omega
            have ql2 : ¬((8 : Int) < (x.msgs.length : Int)) := by omega
            clear hn hq hfe hcf hlen
            generalize x.seq = n at *
            generalize x.amount = a at *
            generalize hL : x.msgs.length = L at *
            have HL := Lib.hid hL
            have qb : ((L : Int) == 0) = false := beq_eq_false_iff_ne.2 (by omega)
            clear hL
            go_enter Tryz.func9, Tryz.ntmps9
            go_wp2_with fail
            refine cN.mono ?_
            rintro e w2 ⟨rfl, hb2⟩
            have q2 := hb1.trans (hb2.mono hb1.size)
            obtain ⟨k0, k1, k2, k3, k4, k5⟩ := Six.cells (by simpa using hb2)
            go_wp2_with fail
            refine (cC _ q2).mono ?_
            rintro e w3 ⟨ev, rfl, hE, hb3⟩
            obtain rfl := hE.zero
            have q3 := q2.trans (hb3.mono q2.size)
            have hb23 := hb2.trans (hb3.mono hb2.size)
            clear k0 k1 k2 k3 k4 k5
            obtain ⟨k0, k1, k2, k3, k4, k5⟩ := Six.cells (by simpa using hb23)
            have h1 := h1'.keep hb23
            have hz : w.heap.size < w3.heap.size := by have := hb23.size; simp at this; omega
            clear hb1 hb2 hb3 hb23 hE h1' cN cC q2
            go_wp2_with fail
            go_loopg [57] L (fun k s57 wq => ∃ i : Nat, k + i = L ∧ s57 = .int .i64 (i : Int) ∧ Hid (∀ (j : Nat) (u : MsgD), j < i → x.msgs[j]? = some u → msgN u = 0) ∧ Below w3.heap.size w3 wq)
            case atStart => exact ⟨0, by omega, rfl, Lib.hid (fun j t h => absurd h (Nat.not_lt_zero _)), Below.refl _ _⟩
            case round =>
              obtain ⟨i, hi, rfl, HT, hbr⟩ := hrel
              have hqr := q3.trans (hbr.mono q3.size)
              have hzr : w.heap.size < wr.heap.size := by have := hbr.size; omega
              have j5 := (hbr.cell (p := ⟨w.heap.size, 5, none⟩) hz).trans k5
              by_cases hlt : i < L
              · have hx : x.msgs[i]? = some (x.msgs[i]'(by rw [HL.out]; exact hlt)) := List.getElem?_eq_getElem _
                generalize x.msgs[i]'(by rw [HL.out]; exact hlt) = m at *
                have hsm := s5 m (List.mem_of_getElem? hx)
                obtain ⟨bb, o, B1, B2, B3, d1, d2, d3, rfl, m0, m1, m2, m3, hat⟩ := (h1.keep hbr).at hx
                have HX := Lib.hid hx
                obtain ⟨z1, z2, z3, z4, z5⟩ := hsm
                have cM := msgCheck_any _ m _ (hat.keep (below_alloc wr (.cells #[.int .i64 m.kind, .slice B1 m.texts.length d1, .slice B2 m.ints.length d2, .slice B3 m.data.length d3] 35))) (by omega) (by omega) (fun t ht => by have := z4 t ht; omega) (fun t ht => by have := z5 t ht; omega)
                unfold msgVal ErrPost at cM
                simp only at cM
                have hba := below_alloc wr (.cells #[.int .i64 m.kind, .slice B1 m.texts.length d1, .slice B2 m.ints.length d2, .slice B3 m.data.length d3] 35)
                have i0 : (0 : Int) ≤ (i : Int) := by omega
                have i1 : (i : Int) < (L : Int) := by omega
                clear hx hat z1 z2 z3 z4 z5
                go_wp2_with fail
                refine cM.mono ?_
                rintro e w4 ⟨ev, rfl, hE, hb4⟩
                have hb34 := hba.trans (hb4.mono hba.size)
                have hbr4 := hbr.trans (hb34.mono hbr.size)
                by_cases h0 : msgN m = 0
                · rw [h0] at hE
                  obtain rfl := hE.zero
                  have HT2 : Hid (∀ (j : Nat) (u : MsgD), j < i + 1 → x.msgs[j]? = some u → msgN u = 0) := Lib.hid (fun j u hj hu => by
                    rcases Nat.lt_succ_iff_lt_or_eq.1 hj with h | rfl
                    · exact HT.out j u h hu
                    · obtain rfl := Option.some.inj (HX.out.symm.trans hu)
                      exact h0)
                  clear HT HX h0 cM
                  go_wp2_with fail
                  go_roundg (gk - 1)
                  case measure => omega
                  case rel => exact ⟨i + 1, by omega, by go_num, HT2, hbr4⟩
                · obtain ⟨t, y, rfl⟩ := hE.iface h0
                  have HR : Hid (txN x = msgN m) := Lib.hid (by
                    have := msgsN_at x.msgs i m HT.out HX.out h0
                    rw [HD.out, this, if_pos h0])
                  clear cM
                  go_wp2_with fail
                  go_ret
                  exact ⟨_, rfl, by rw [HR.out]; exact hE, hqr.trans (hb34.mono hqr.size)⟩
              · have HM : Hid (msgsN x.msgs = 0) := Lib.hid (msgsN_none _ fun j t ht => HT.out j t (by have := (List.getElem?_eq_some_iff.1 ht).1; have := HL.out; omega) ht)
                by_cases hsg : 8192 < x.sign.length
                · have q : (8192 : Int) < (x.sign.length : Int) := by omega
                  have HR : Hid (txN x = 2) := Lib.hid (by rw [HD.out, HM.out]; simp [hsg])
                  clear hsg
                  go_wp2_with fail
                  refine (txFault_any _ _ _).mono ?_
                  rintro e w4 ⟨rfl, rfl⟩
                  go_wp2_with fail
                  go_ret
                  exact ⟨_, rfl, by rw [HR.out]; exact IsErr.fault (by decide) rfl rfl, hqr.alloc hqr.size _⟩
                · have q : ¬((8192 : Int) < (x.sign.length : Int)) := by omega
                  have HR : Hid (txN x = 0) := Lib.hid (by rw [HD.out, HM.out]; simp [hsg])
                  clear hsg
                  go_wp2_with fail
                  go_ret
                  exact ⟨_, rfl, by rw [HR.out]; exact IsErr.nil_ _, hqr⟩
      · have HR : Hid (txN x = checkF (strOf x.denom)) := Lib.hid (by rw [HD.out]; simp [hcf])
        generalize checkF (strOf x.denom) = F at *
        clear HD hn hq
        generalize x.seq = n at *
        go_enter Tryz.func9, Tryz.ntmps9
        go_wp2_with fail
        refine cN.mono ?_
        rintro e w2 ⟨rfl, hb2⟩
        have q2 := hb1.trans (hb2.mono hb1.size)
        obtain ⟨k0, k1, k2, k3, k4, k5⟩ := Six.cells (by simpa using hb2)
        go_wp2_with fail
        refine (cC _ q2).mono ?_
        rintro e w3 ⟨ev, rfl, hE, hb3⟩
        obtain ⟨t, y, rfl⟩ := hE.iface hcf
        go_wp2_with fail
        go_ret
        exact ⟨_, rfl, by rw [HR.out]; exact hE, q2.trans (hb3.mono q2.size)⟩
end Go.Proofs.YteajgnoimbdkbaaGreatDoor
