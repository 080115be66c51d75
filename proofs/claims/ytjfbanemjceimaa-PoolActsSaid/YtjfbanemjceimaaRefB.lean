/- The document's pool: Acquire, Retain, Release, Reclaim. -/
import Derived.BigQuiet
import Derived.Test.YtjfbanemjceimaaRef
namespace Go.Proofs.Ytjfbanemjceimaa
open Go.RowKit Go.Maps
set_option linter.unusedVariables false
set_option linter.unusedSimpArgs false
set_option linter.unnecessarySimpa false

section
variable {q lb N Q T lo hi : Nat} {rs : List Fr}

theorem first_none {rs : List Fr} (h : ∀ (i : Nat) (x : Fr), rs[i]? = some x → x.own ≠ 0) : first rs = none := by
  unfold first
  rw [List.findIdx?_eq_none_iff]
  intro x hx
  obtain ⟨i, hi⟩ := List.mem_iff_getElem?.1 hx
  rw [beq_eq_false_iff_ne]
  exact h i x hi

theorem first_some {rs : List Fr} {k : Nat} {y : Fr} (h : ∀ (i : Nat) (x : Fr), i < k → rs[i]? = some x → x.own ≠ 0) (hy : rs[k]? = some y) (h0 : y.own = 0) : first rs = some k := by
  unfold first
  obtain ⟨hk, rfl⟩ := List.getElem?_eq_some_iff.1 hy
  rw [List.findIdx?_eq_some_iff_getElem]
  refine ⟨hk, by simpa using h0, fun j hj => ?_⟩
  have := h j _ hj (List.getElem?_eq_getElem (by omega))
  simpa using this

theorem only_lb {w : World} (lb o : Nat) (v : Value) : Only (fun k => k = lb) w (w.setCell ⟨lb, o, none⟩ v) := (Only.refl (fun k => k = lb) w).setOf (o := o) rfl _

theorem acq_range {Q : Nat} {o : Int} (h : o < 1 ∨ 2147483647 < o) : acq rs Q o = (0, 3, rs) := by unfold acq; rw [if_pos h]
theorem acq_quota {Q : Nat} {o : Int} (h : ¬ (o < 1 ∨ 2147483647 < o)) (h2 : Q ≤ cnt rs o) : acq rs Q o = (0, 17, rs) := by unfold acq; rw [if_neg h, if_pos h2]
theorem acq_full {Q : Nat} {o : Int} (h : ¬ (o < 1 ∨ 2147483647 < o)) (h2 : ¬ Q ≤ cnt rs o) (h3 : first rs = none) : acq rs Q o = (0, 15, rs) := by unfold acq; rw [if_neg h, if_neg h2, h3]
theorem acq_take {Q n : Nat} {o : Int} (h : ¬ (o < 1 ∨ 2147483647 < o)) (h2 : ¬ Q ≤ cnt rs o) (h3 : first rs = some n) : acq rs Q o = ((n : Int), 0, taken rs n o) := by unfold acq; rw [if_neg h, if_neg h2, h3]

set_option maxHeartbeats 1000000 in
theorem racq_ok (o : Int) (w : World) (h : RP w q lb N Q T lo hi rs) (hT : T + 1 ≤ 900000) :
    Calls Try.prog 35 #[.pointer (some ⟨q, 0, none⟩), .int .i64 o] w fun e w' => e = .returned (.tuple #[.int .i64 (acq rs Q o).1, .int .i64 (acq rs Q o).2.1]) ∧ Only (fun k => k = lb) w w' ∧
      RP w' q lb N Q (T + 1) lo hi (acq rs Q o).2.2 := by
  have hlen := h.len
  have H := Lib.hid h
  have k0 := h.box.cell 0
  have k1 := h.box.cell 1
  simp at k0 k1
  have hne := h.ne
  have hcl := cnt_le rs o
  have hN := h.N64
  clear h
  by_cases h1 : o < 1 ∨ 2147483647 < o
  · rw [acq_range h1]
    go_enter Try.func35, Try.ntmps35
    go_wp2_with fail
    all_goals
      go_returns
      exact ⟨rfl, Only.refl _ _, H.out.mono (by omega) hT⟩
  · have hm : many rs o = (cnt rs o : Nat) := by unfold many; rw [if_pos (by omega)]
    have hq1 := fun h2 => acq_quota (rs := rs) (Q := Q) h1 h2
    have hq2 := fun h2 h3 => acq_full (rs := rs) (Q := Q) h1 h2 h3
    have hq3 := fun h2 n h3 => acq_take (rs := rs) (Q := Q) (n := n) h1 h2 h3
    obtain ⟨R, hR⟩ : ∃ R, acq rs Q o = R := ⟨_, rfl⟩
    rw [hR] at hq1 hq2 hq3 ⊢
    have HQ2 := Lib.hid hq2
    have HQ3 := Lib.hid hq3
    clear hR hq2 hq3
    obtain ⟨c, hc⟩ : ∃ c, cnt rs o = c := ⟨_, rfl⟩
    rw [hc] at hm hcl hq1 HQ2 HQ3
    have hh := fun n : Nat => rheld_ok o (w.drewN n) (H.out.kept ((Only.refl (fun _ => False) w).drewN n))
    rw [hm] at hh
    have HH := Lib.hid hh
    clear hh hm hc
    by_cases h2 : Q ≤ c
    · rw [hq1 h2]
      go_enter Try.func35, Try.ntmps35
      go_wp2_with fail
      go_quiet ((go_at_call 43; exact quiet_left (HH.out _)))
      go_wp2_with fail
      go_returns
      have hk := (Only.refl (fun _ => False) w).drewN nq
      exact ⟨rfl, hk.mono (fun _ _ f => f.elim), (H.out.kept hk).mono (by omega) hT⟩
    · clear hq1
      go_enter Try.func35, Try.ntmps35
      go_wp2_with fail
      go_quiet ((go_at_call 43; exact quiet_left (HH.out _)))
      have hk := (Only.refl (fun _ => False) w).drewN nq
      have hr1 := H.out.kept hk
      replace k0 := kept_cell hk k0
      generalize (w.drewN nq) = w1 at *
      have HK := Lib.hid hk
      have H1 := Lib.hid hr1
      clear hk hr1 k1 H HH
      go_wp2_with fail
      go_loopw [6] (fun v wr => ∃ k : Nat, v = .int .i64 k ∧ k ≤ N ∧ (∀ (i : Nat) (x : Fr), i < k → rs[i]? = some x → x.own ≠ 0) ∧ w1 = wr) (fun v _ => N - (intOf v).toNat)
      case atStart => exact ⟨0, rfl, by omega, fun i x hi => by omega, rfl⟩
      case round =>
        obtain ⟨k, rfl, hk, hf, rfl⟩ := hrel
        have HF := Lib.hid hf
        clear hf
        by_cases hkn : k < N
        · obtain ⟨x, hx⟩ : ∃ x, rs[k]? = some x := ⟨_, List.getElem?_eq_getElem (by omega)⟩
          obtain ⟨cs, htab, hrows⟩ := H1.out.tab
          obtain ⟨a, b, c⟩ := hrows.2 k x hx
          have c0 := (htab.cell (k * 3)).trans a
          have c1 := (htab.cell (k * 3 + 1)).trans b
          have y0 := htab.frozen (k * 3)
          have y1 := htab.frozen (k * 3 + 1)
          have hlt := htab.lt
          have z1 : (0 : Int) ≤ (k : Int) := by omega
          have z2 : (k : Int) < (N : Int) := by omega
          have HX := Lib.hid hx
          clear a b c hx htab hrows
          by_cases hd1 : x.own = 0
          · have hb : (x.own == 0) = true := by rw [beq_iff_eq]; exact hd1
            have hfi := first_some HF.out HX.out hd1
            go_wp2_with fail
            go_returns
            rw [HQ3.out h2 k hfi]
            have hoh := H1.out.ok k x HX.out
            have s1 := H1.out.set_ (T' := T) (y := ⟨o, x.hand, x.mem⟩) (v := .int .i64 o) HX.out rfl (.inl ⟨rfl, rfl, rfl, rfl⟩) hoh (Nat.le_refl _) (by omega)
            have hx2 : (rs.set k ⟨o, x.hand, x.mem⟩)[k]? = some ⟨o, x.hand, x.mem⟩ := List.getElem?_set_self (List.getElem?_eq_some_iff.1 HX.out).1
            have s2 := s1.set_ (T' := T + 1) (y := ⟨o, 1, x.mem⟩) (v := .int .i64 1) hx2 rfl (.inr ⟨rfl, rfl, rfl, rfl⟩) ⟨by show (0 : Int) ≤ 1; decide, by show (1 : Int) ≤ _; omega⟩ (by omega) hT
            rw [List.set_set] at s2
            simp only [taken, HX.out]
            exact ⟨rfl, HK.out.mono (fun _ _ f => f.elim) |>.trans ((only_lb lb _ _).trans (only_lb lb _ _)), s2⟩
          · have hb : (x.own == 0) = false := by rw [beq_eq_false_iff_ne]; exact hd1
            go_wp2_with fail
            go_roundw
            case rel =>
              refine ⟨k + 1, by go_num, by omega, fun i y hi hy => ?_, by trivial⟩
              by_cases e : i = k
              · subst e
                rw [HX.out] at hy; cases hy; exact hd1
              · exact HF.out i y (by omega) hy
            case measure => simp [intOf]; omega
        · have hfi := first_none (rs := rs) (fun i x hx => HF.out i x (by have := (List.getElem?_eq_some_iff.1 hx).1; omega) hx)
          go_wp2_with fail
          go_returns
          rw [HQ2.out h2 hfi]
          exact ⟨rfl, HK.out.mono (fun _ _ f => f.elim), H1.out.mono (by omega) hT⟩

theorem rret_ok (n o : Int) (w : World) (h : RP w q lb N Q T lo hi rs) (hT : T + 1 ≤ 900000) :
    Calls Try.prog 36 #[.pointer (some ⟨q, 0, none⟩), .int .i64 n, .int .i64 o] w fun e w' => e = .returned (.int .i64 (why rs n o)) ∧ Only (fun k => k = lb) w w' ∧ RP w' q lb N Q (T + 1) lo hi (retained rs n o) := by
  have hlen := h.len
  have H := Lib.hid h
  have k0 := h.box.cell 0
  simp at k0
  have hne := h.ne
  have HR := Lib.hid (rref_ok n o w h)
  clear h
  by_cases hw : why rs n o = 0
  · obtain ⟨m, x, rfl, hx, _, _⟩ := why_ok hw
    have hm : m < N := by have := (List.getElem?_eq_some_iff.1 hx).1; omega
    obtain ⟨cs, htab, hrows⟩ := H.out.tab
    obtain ⟨a, b, c⟩ := hrows.2 m x hx
    have c1 := (htab.cell (m * 3 + 1)).trans b
    have y1 := htab.frozen (m * 3 + 1)
    have hlt := htab.lt
    have z1 : (0 : Int) ≤ (m : Int) := by omega
    have z2 : (m : Int) < (N : Int) := by omega
    obtain ⟨q1, q2⟩ := H.out.ok m x hx
    have s1 := H.out.set_ (T' := T + 1) (y := ⟨x.own, x.hand + 1, x.mem⟩) (v := .int .i64 (x.hand + 1)) hx rfl (.inr ⟨rfl, rfl, rfl, rfl⟩) ⟨by show (0 : Int) ≤ x.hand + 1; omega, by show x.hand + 1 ≤ ((T + 1 : Nat) : Int); omega⟩ (by omega) hT
    have hq : retained rs m o = rs.set m ⟨x.own, x.hand + 1, x.mem⟩ := by unfold retained; rw [if_pos hw]; simp [hx]
    have S1 := Lib.hid s1
    rw [hq, hw]
    rw [hw] at HR
    clear a b c hx htab hrows s1 hq hw
    go_enter Try.func36, Try.ntmps36
    go_wp2_with fail
    refine HR.out.mono ?_
    rintro e w' ⟨rfl, rfl⟩
    go_wp2_with fail
    go_returns
    exact ⟨rfl, only_lb lb _ _, S1.out⟩
  · have hq : retained rs n o = rs := by unfold retained; rw [if_neg hw]
    rw [hq]
    obtain ⟨e, he⟩ : ∃ e, why rs n o = e := ⟨_, rfl⟩
    rw [he] at hw HR ⊢
    have heb : (e == 0) = false := by rw [beq_eq_false_iff_ne]; exact hw
    clear hq he
    go_enter Try.func36, Try.ntmps36
    go_wp2_with fail
    refine HR.out.mono ?_
    rintro e w' ⟨rfl, rfl⟩
    go_wp2_with fail
    go_returns
    exact ⟨rfl, Only.refl _ _, H.out.mono (by omega) hT⟩

set_option maxHeartbeats 1000000 in
theorem rrel_ok (n o : Int) (w : World) (h : RP w q lb N Q T lo hi rs) (hT : T + 1 ≤ 900000) (hp : ∀ (i : Nat) (x : Fr), rs[i]? = some x → x.own ≠ 0 → 1 ≤ x.hand) :
    Calls Try.prog 37 #[.pointer (some ⟨q, 0, none⟩), .int .i64 n, .int .i64 o] w fun e w' => e = .returned (.int .i64 (why rs n o)) ∧ Only (fun k => k = lb) w w' ∧ RP w' q lb N Q (T + 1) lo hi (released rs n o) := by
  have hlen := h.len
  have H := Lib.hid h
  have k0 := h.box.cell 0
  simp at k0
  have hne := h.ne
  have HR := Lib.hid (rref_ok n o w h)
  have HPP := Lib.hid hp
  clear h hp
  by_cases hw : why rs n o = 0
  · obtain ⟨m, x, rfl, hx, _, h0⟩ := why_ok hw
    have hm : m < N := by have := (List.getElem?_eq_some_iff.1 hx).1; omega
    obtain ⟨cs, htab, hrows⟩ := H.out.tab
    obtain ⟨a, b, c⟩ := hrows.2 m x hx
    have c0 := (htab.cell (m * 3)).trans a
    have c1 := (htab.cell (m * 3 + 1)).trans b
    have y0 := htab.frozen (m * 3)
    have y1 := htab.frozen (m * 3 + 1)
    have hlt := htab.lt
    have z1 : (0 : Int) ≤ (m : Int) := by omega
    have z2 : (m : Int) < (N : Int) := by omega
    obtain ⟨q1, q2⟩ := H.out.ok m x hx
    have q3 := HPP.out m x hx h0
    have s1 := H.out.set_ (T' := T) (y := ⟨x.own, x.hand - 1, x.mem⟩) (v := .int .i64 (x.hand - 1)) hx rfl (.inr ⟨rfl, rfl, rfl, rfl⟩) ⟨by show (0 : Int) ≤ x.hand - 1; omega, by show x.hand - 1 ≤ (T : Int); omega⟩ (by omega) (by omega)
    have hx2 : (rs.set m ⟨x.own, x.hand - 1, x.mem⟩)[m]? = some ⟨x.own, x.hand - 1, x.mem⟩ := List.getElem?_set_self (List.getElem?_eq_some_iff.1 hx).1
    have hwr := HR.out
    rw [hw] at hwr ⊢
    have HR2 := Lib.hid hwr
    by_cases h1 : x.hand = 1
    · have hq : released rs m o = rs.set m ⟨0, 0, x.mem⟩ := by unfold released; rw [if_pos hw]; simp [hx, h1]
      have s2 := s1.set_ (T' := T + 1) (y := ⟨0, x.hand - 1, x.mem⟩) (v := .int .i64 0) hx2 rfl (.inl ⟨rfl, rfl, rfl, rfl⟩) ⟨by show (0 : Int) ≤ x.hand - 1; omega, by show x.hand - 1 ≤ ((T + 1 : Nat) : Int); omega⟩ (by omega) hT
      rw [List.set_set] at s2
      rw [h1] at s2 c1
      have S2 := Lib.hid s2
      rw [hq]
      clear a b c hx htab hrows s1 s2 hq hw hx2 HR hwr q1 q2 q3 h1
      go_enter Try.func37, Try.ntmps37
      go_wp2_with fail
      refine HR2.out.mono ?_
      rintro e w' ⟨rfl, rfl⟩
      go_wp2_with fail
      go_returns
      exact ⟨rfl, (only_lb lb _ _).trans (only_lb lb _ _), S2.out⟩
    · have hq : released rs m o = rs.set m ⟨x.own, x.hand - 1, x.mem⟩ := by unfold released; rw [if_pos hw]; simp [hx, h1]
      have s2 := s1.mono (show T ≤ T + 1 by omega) hT
      have S2 := Lib.hid s2
      have hb1 : (x.hand - 1 == 0) = false := by rw [beq_eq_false_iff_ne]; omega
      rw [hq]
      clear a b c hx htab hrows s1 s2 hq hw hx2 HR hwr
      go_enter Try.func37, Try.ntmps37
      go_wp2_with fail
      refine HR2.out.mono ?_
      rintro e w' ⟨rfl, rfl⟩
      go_wp2_with fail
      go_returns
      exact ⟨rfl, only_lb lb _ _, S2.out⟩
  · have hq : released rs n o = rs := by unfold released; rw [if_neg hw]
    rw [hq]
    obtain ⟨e, he⟩ : ∃ e, why rs n o = e := ⟨_, rfl⟩
    rw [he] at hw HR ⊢
    have heb : (e == 0) = false := by rw [beq_eq_false_iff_ne]; exact hw
    clear hq he
    go_enter Try.func37, Try.ntmps37
    go_wp2_with fail
    refine HR.out.mono ?_
    rintro e w' ⟨rfl, rfl⟩
    go_wp2_with fail
    go_returns
    exact ⟨rfl, Only.refl _ _, H.out.mono (by omega) hT⟩

set_option maxHeartbeats 1000000 in
theorem rrecl_ok (o : Int) (w : World) (h : RP w q lb N Q T lo hi rs) :
    Calls Try.prog 39 #[.pointer (some ⟨q, 0, none⟩), .int .i64 o] w fun e w' => e = .returned (.tuple #[.int .i64 (many rs o), .int .i64 0]) ∧ Only (fun k => k = lb) w w' ∧ RP w' q lb N Q T lo hi (recl rs o) := by
  have hlen := h.len
  have hN := h.N64
  have H := Lib.hid h
  clear h
  go_enter Try.func39, Try.ntmps39
  go_wp2_with fail
  go_loopw [6, 7] (fun s v wr => ∃ k : Nat, v = .int .i64 k ∧ k ≤ N ∧ s = .int .i64 (many (rs.take k) o) ∧ Only (fun k => k = lb) w wr ∧ RP wr q lb N Q T lo hi ((rs.take k).map (rc o) ++ rs.drop k)) (fun _ v _ => N - (intOf v).toNat)
  case atStart => exact ⟨0, rfl, by omega, by simp [many, cnt], Only.refl _ _, by simpa using H.out⟩
  case round =>
    obtain ⟨k, rfl, hk, rfl, ho, h2⟩ := hrel
    have HO := Lib.hid ho
    have hml := many_le (rs.take k) o
    have hmk : (rs.take k).length ≤ k := List.length_take_le _ _
    have hne := h2.ne
    have k0 := h2.box.cell 0
    simp at k0
    by_cases hkn : k < N
    · obtain ⟨x, hx⟩ : ∃ x, rs[k]? = some x := ⟨_, List.getElem?_eq_getElem (by omega)⟩
      have hx2 := (part_at (rc o) rs k).trans hx
      obtain ⟨cs, htab, hrows⟩ := h2.tab
      obtain ⟨a, b, c⟩ := hrows.2 k x hx2
      have c0 := (htab.cell (k * 3)).trans a
      have c1 := (htab.cell (k * 3 + 1)).trans b
      have y0 := htab.frozen (k * 3)
      have y1 := htab.frozen (k * 3 + 1)
      have hlt := htab.lt
      have z1 : (0 : Int) ≤ (k : Int) := by omega
      have z2 : (k : Int) < (N : Int) := by omega
      have hs := many_step rs k x o hx
      have hpart := part_step (rc o) rs k x hx
      obtain ⟨s0, hs0⟩ : ∃ s0, many (rs.take k) o = s0 := ⟨_, rfl⟩
      rw [hs0] at hs hml
      rw [hs0]
      have HS := Lib.hid hs
      have HP := Lib.hid hpart
      have H2 := Lib.hid h2
      have HX := Lib.hid hx2
      by_cases hd : x.own = o ∧ 0 < o
      · obtain ⟨hd1, hd2⟩ := hd
        have hr : rc o x = ⟨0, 0, x.mem⟩ := by unfold rc; rw [if_pos ⟨hd1, hd2⟩]
        have HR := Lib.hid hr
        have hb : (x.own == o) = true := by rw [beq_iff_eq]; exact hd1
        clear a b c hx htab hrows hs hs0 h2 hx2 hpart hr ho
        go_wp2_with fail
        go_roundw
        case rel =>
          have hoh := H2.out.ok k x HX.out
          have s1 := H2.out.set_ (T' := T) (y := ⟨0, x.hand, x.mem⟩) (v := .int .i64 0) HX.out rfl (.inl ⟨rfl, rfl, rfl, rfl⟩) hoh (Nat.le_refl _) H2.out.T1
          have hx3 := List.getElem?_set_self (a := (⟨0, x.hand, x.mem⟩ : Fr)) (List.getElem?_eq_some_iff.1 HX.out).1
          have s2 := s1.set_ (T' := T) (y := ⟨0, 0, x.mem⟩) (v := .int .i64 0) hx3 rfl (.inr ⟨rfl, rfl, rfl, rfl⟩) ⟨by show (0 : Int) ≤ 0; decide, by show (0 : Int) ≤ _; omega⟩ (Nat.le_refl _) H2.out.T1
          rw [List.set_set] at s2
          refine ⟨k + 1, by go_num, by omega, by rw [HS.out, if_pos ⟨hd1, hd2⟩], HO.out.trans ((only_lb lb _ _).trans (only_lb lb _ _)), ?_⟩
          rw [← HP.out, HR.out]
          exact s2
        case measure => simp [intOf]; omega
      · have hr := rc_no hd
        have hset : ((rs.take k).map (rc o) ++ rs.drop k).set k x = (rs.take k).map (rc o) ++ rs.drop k := by
          obtain ⟨hq, hq2⟩ := List.getElem?_eq_some_iff.1 hx2
          conv => rhs; rw [← List.set_getElem_self hq]
          rw [hq2]
        have hP2 : RP wr q lb N Q T lo hi ((rs.take (k + 1)).map (rc o) ++ rs.drop (k + 1)) := by
          rw [← HP.out, hr, hset]
          exact h2
        have HP2 := Lib.hid hP2
        have HD := Lib.hid hd
        by_cases hd1 : x.own = o
        · have hd2 : ¬ 0 < o := fun q => hd ⟨hd1, q⟩
          have hb : (x.own == o) = true := by rw [beq_iff_eq]; exact hd1
          clear a b c hx htab hrows hs hs0 h2 hx2 hpart hr ho hd hset hP2
          go_wp2_with fail
          go_roundw
          case rel => exact ⟨k + 1, by go_num, by omega, by rw [HS.out, if_neg HD.out, Int.add_zero], HO.out, HP2.out⟩
          case measure => simp [intOf]; omega
        · have hb : (x.own == o) = false := by rw [beq_eq_false_iff_ne]; exact hd1
          clear a b c hx htab hrows hs hs0 h2 hx2 hpart hr ho hd hset hP2 hd1
          go_wp2_with fail
          go_roundw
          case rel => exact ⟨k + 1, by go_num, by omega, by rw [HS.out, if_neg HD.out, Int.add_zero], HO.out, HP2.out⟩
          case measure => simp [intOf]; omega
    · have hkN : k = N := by omega
      have e1 : rs.take k = rs := List.take_of_length_le (by omega)
      have e2 : rs.drop k = [] := List.drop_of_length_le (by omega)
      rw [e1]
      rw [e1, e2, List.append_nil] at h2
      have H2 := Lib.hid h2
      clear h2 hml hmk e1 e2 ho
      go_wp2_with fail
      go_returns
      exact ⟨rfl, HO.out, H2.out⟩
end
end Go.Proofs.Ytjfbanemjceimaa
