/- The document's answer: Plan. -/
import Derived.Test.YtflljldmcidhgaaRg
namespace Go.Proofs.Ytflljldmcidhgaa
open Go.RowKit
set_option linter.unusedVariables false
set_option linter.unusedSimpArgs false
set_option linter.unnecessarySimpa false

def lenOf : Value → Nat
  | .slice _ n _ => n
  | _ => 0

/-- The copy that Plan counts down. -/
def Rs (wr : World) (base : Nat) (MA : Option Addr) (MC : Nat) (rs : List Hd) : Prop := rs ≠ [] → ∃ g, MA = some ⟨g, 0, none⟩ ∧ Row wr g MC rs ∧ base ≤ g

theorem Rs.hs {wr : World} {base : Nat} {MA : Option Addr} {MC : Nat} {rs : List Hd} (h : Rs wr base MA MC rs) : Hs wr MA rs := fun hne => by
  obtain ⟨g, rfl, hr, _⟩ := h hne
  exact hs_of_row hr hne

theorem Rs.drewN {wr : World} {base : Nat} {MA : Option Addr} {MC : Nat} {rs : List Hd} (h : Rs wr base MA MC rs) (q : Nat) : Rs (wr.drewN q) base MA MC rs := h

theorem set_get {α : Type} {l : List α} {n i : Nat} {x y z : α} (hx : l[n]? = some x) (h : (l.set n y)[i]? = some z) : (i = n ∧ z = y) ∨ (i ≠ n ∧ l[i]? = some z) := by
  by_cases e : i = n
  · subst e
    rw [List.getElem?_set_self (List.getElem?_eq_some_iff.1 hx).1] at h
    cases h
    exact .inl ⟨rfl, rfl⟩
  · rw [List.getElem?_set_ne (fun q => e q.symm)] at h
    exact .inr ⟨e, h⟩

theorem row_zero {w w' : World} {g cap j : Nat} {rs : List Hd} {x : Hd} (hr : Row w g cap rs) (hx : rs[j]? = some x) (hw : w' = w.setCell ⟨g, j * 2 + 1, none⟩ (.int .i64 0)) : Row w' g cap (rs.set j ⟨x.id, 0⟩) := by
  obtain ⟨cs, h1, h2, h3⟩ := hr
  subst hw
  refine ⟨_, h1.set_ (j * 2 + 1) (.int .i64 0), by simpa using h2, fun k y hy => ?_⟩
  obtain ⟨x1, x2, x3⟩ := h3 j x hx
  rcases set_get hx hy with ⟨rfl, rfl⟩ | ⟨e, h⟩
  · refine ⟨?_, ?_, x3.1, x3.2.1, by simp, by simp⟩
    · rw [Array.getElem?_setIfInBounds_ne (by omega)]; exact x1
    · exact Array.getElem?_setIfInBounds_self_of_lt (Array.getElem?_eq_some_iff.1 x2).1
  · obtain ⟨y1, y2, y3⟩ := h3 k y h
    rw [Array.getElem?_setIfInBounds_ne (by omega), Array.getElem?_setIfInBounds_ne (by omega)]
    exact ⟨y1, y2, y3⟩

theorem row_grown {w w' : World} {base n g cap : Nat} {v : Value} {xs : List Value} {rs : List Hd} (hr : Row w g cap rs) (ho : w.ownsRow base 3 1 v n xs) (hg : w.grownBy w' v.ownBlock) : Row w' g cap rs := by
  obtain ⟨cs, h1, h2, h3⟩ := hr
  refine ⟨cs, h1.grown hg (fun e => ?_), h2, h3⟩
  obtain ⟨c2, hc2⟩ := own_blk ho e.symm
  exact h1.ne_ hc2 (by decide) rfl

theorem rs_start {w w2 W3 : World} {v : Value} {n : Nat} {hs : List Hd} (hk : Kept w w2) (hn : hs.length = n) (hok : ∀ x ∈ hs, Hok x) (ho : W3.ownsRow w2.heap.size 41 2 v n (hs.flatMap Hd.cells)) {MA : Option Addr} {MC : Nat} (hv : v = .slice MA n MC) :
    Rs W3 w.heap.size MA MC hs := fun hne => by
  subst hv
  rcases ho.2 with ⟨_, h1⟩ | ⟨g, cap, cur, h1, h2, h3, _⟩
  · exact absurd (List.eq_nil_of_length_eq_zero (hn.trans h1)) hne
  · injection h1 with e1 e2 e3
    subst e1
    exact ⟨g, rfl, (own_row ho hn hok).1, Nat.le_trans hk.size h2⟩

theorem rplan_bad (A : Option Addr) (n c : Nat) (hs : List Hd) (f want : Int) (w : World) (hn : hs.length = n) (hb : n ≤ 9223372036854775807) (hL : Hs w A hs) (hg : ¬ (Good hs ∧ 0 ≤ f ∧ f ≤ 10000 ∧ 0 ≤ want ∧ want ≤ 10000)) :
    Calls Try.prog 12 #[.slice A n c, .int .i64 f, .int .i64 want] w fun e w' => e = .returned (.tuple #[.slice none 0 0, .int .i64 0, .int .i64 2]) ∧ Kept w w' := by
  have hck := rcheck_calls A n c hs w hn hb hL
  by_cases hG : Good hs
  · rw [chk_good hG] at hck
    have HC := Lib.hid hck
    have hor : f < 0 ∨ 10000 < f ∨ want < 0 ∨ 10000 < want := by
      refine Classical.byContradiction fun h => hg ⟨hG, by omega, by omega, by omega, by omega⟩
    clear hck hn hL hg hG
    go_enter Try.func12, Try.ntmps12
    go_wp2_with fail
    refine HC.out.mono ?_
    rintro e w1 ⟨rfl, hk1⟩
    have HK1 := Lib.hid hk1
    clear hk1 HC
    by_cases b1 : f < 0
    · go_wp2_with fail
      go_returns
      exact ⟨rfl, HK1.out⟩
    by_cases b2 : 10000 < f
    · go_wp2_with fail
      go_returns
      exact ⟨rfl, HK1.out⟩
    by_cases b3 : want < 0
    · go_wp2_with fail
      go_returns
      exact ⟨rfl, HK1.out⟩
    have b4 : 10000 < want := by omega
    go_wp2_with fail
    go_returns
    exact ⟨rfl, HK1.out⟩
  · rw [chk_bad hG] at hck
    have HC := Lib.hid hck
    clear hck hn hL hg hG
    go_enter Try.func12, Try.ntmps12
    go_wp2_with fail
    refine HC.out.mono ?_
    rintro e w1 ⟨rfl, hk1⟩
    have HK1 := Lib.hid hk1
    clear hk1
    go_wp2_with fail
    go_returns
    exact ⟨rfl, HK1.out⟩

set_option maxRecDepth 100000 in
set_option maxHeartbeats 8000000 in
theorem rplan_good (A : Option Addr) (n c : Nat) (hs : List Hd) (f want : Int) (w : World) (hn : hs.length = n) (hL : Hs w A hs) (hA0 : A = none → c = 0) (hg : Good hs) (hf1 : 0 ≤ f) (hf2 : f ≤ 10000) (hw1 : 0 ≤ want) (hw2 : want ≤ 10000)
    (hbd : ∀ x ∈ hs, x.id ≤ 9223372036854775807) :
    Calls Try.prog 12 #[.slice A n c, .int .i64 f, .int .i64 want] w fun e w' => ∃ A' c', e = .returned (.tuple #[.slice A' (plan (vics hs) f want).length c', .int .i64 (f + sumfr (plan (vics hs) f want)), .int .i64 0]) ∧
      w'.ownsRow w.heap.size 3 1 (.slice A' (plan (vics hs) f want).length c') (plan (vics hs) f want).length (((plan (vics hs) f want).map Hd.id).map (Value.int .i64)) ∧ Kept w w' := by
  obtain ⟨i0, hi, hz0, hz1, hz2⟩ := info_parts (show (Try.prog.info? 41).map (fun i => (i.zero, i.size, i.bytes)) = some (some (.agg #[.int .i64 0, .int .i64 0]), 2, 16) by kernel_rfl)
  obtain ⟨i3, hi3, h30, h31, h32⟩ := info_parts (show (Try.prog.info? 3).map (fun i => (i.zero, i.size, i.bytes)) = some (some (.int .i64 0), 1, 8) by kernel_rfl)
  have h64 := hg.1
  rw [hn] at h64
  have hck := rcheck_calls A n c hs w hn (by omega) hL
  rw [chk_good hg] at hck
  have hok := good_ok hg hbd
  have hVlen : (vics hs).length ≤ 64 := by
    have h1 := (vics_perm hs).length_eq
    have h2 := List.length_filter_le (fun x : Hd => decide (0 < x.fr)) hs
    unfold full at h1
    omega
  have hVok : ∀ x ∈ vics hs, Hok x := fun x hx => hok x (vics_mem.1 hx).1
  have HC := Lib.hid hck
  have HN := Lib.hid hn
  have HL := Lib.hid hL
  have HG := Lib.hid hg
  have HBD := Lib.hid hbd
  have HOK := Lib.hid hok
  have HVL := Lib.hid hVlen
  have HVO := Lib.hid hVok
  have hd1 : decide (f < 0) = false := decide_eq_false (by omega)
  have hd2 : decide (10000 < f) = false := decide_eq_false (by omega)
  have hd3 : decide (want < 0) = false := decide_eq_false (by omega)
  have hd4 : decide (10000 < want) = false := decide_eq_false (by omega)
  have hcut : (A = none ∧ n = 0 ∧ c = 0) ∨ ∃ ad, A = some ad := by
    cases hA : A with
    | none =>
      refine .inl ⟨rfl, ?_, hA0 hA⟩
      cases hh : hs with
      | nil => rw [← hn, hh]; rfl
      | cons y l =>
        obtain ⟨g, o, e, _⟩ := hL (by rw [hh]; simp)
        rw [hA] at e; cases e
    | some ad => exact .inr ⟨ad, rfl⟩
  clear hck hn hL hg hbd hok hVlen hVok hA0
  go_enter Try.func12, Try.ntmps12
  go_wp2_with fail
  refine HC.out.mono ?_
  rintro e w2 ⟨rfl, hk2⟩
  have HK2 := Lib.hid hk2
  have HOWN := Lib.hid (World.ownsRow_made (base := w2.heap.size) (e := 41) (size := 2) w2 #[] 0 (Nat.le_refl _) (by unfold maxLen; omega) rfl)
  have HNW := Lib.hid (fun (ad : Addr) (h : A = some ad) => hs_news (w' := w2.alloc (.cells #[] 41)) (h ▸ HL.out) (hk2.alloc _))
  clear hk2 HC
  rcases hcut with ⟨rfl, rfl, rfl⟩ | ⟨ad, rfl⟩
  · go_wp2_with (at_builtin; refine wpList_append_own_none rfl _ _ 22 rfl w2.heap.size 41 i0 2 Try.underlying22 hi _ 0 [] rfl HOWN.out rfl ?_)
    have HK3 := Lib.hid (HK2.out.alloc (.cells #[] 41))
    have hnil : hs = [] := List.eq_nil_of_length_eq_zero HN.out
    obtain ⟨g, hg⟩ : ∃ g, w2.heap.size = g := ⟨_, rfl⟩
    rw [hg]
    have HR := Lib.hid (show Rs (w2.alloc (.cells #[] 41)) w.heap.size (some ⟨g, 0, none⟩) 0 hs from fun hne => absurd hnil hne)
    clear hg HOWN HNW hnil
    generalize (w2.alloc (.cells #[] 41)) = W3 at *
    refine (first_calls (some ⟨g, 0, none⟩) _ 0 hs W3 HN.out (by omega) HR.out.hs HOK.out).mono ?_
    rintro e W4 ⟨r0, rfl, hbest0, q0, rfl⟩
    have HB0 := Lib.hid hbest0
    have HK4 := Lib.hid (HK3.out.drewN q0)
    have HR4 := Lib.hid (HR.out.drewN q0)
    clear hbest0
    generalize (W3.drewN q0) = W4 at *
    go_wp2_with fail
    go_loopw [1, 10, 11] (fun fv u v wr => ∃ (rs pre : List Hd) (r : Int) (AO : Option Addr) (cO : Nat), fv = .int .i64 (f + sumfr pre) ∧ u = .slice AO pre.length cO ∧ v = .int .i64 r ∧ rs.length = hs.length ∧ Best rs hs.length r ∧ Rs wr w.heap.size (some ⟨g, 0, none⟩) 0 rs ∧ vics hs = pre ++ vics rs ∧
      Short f want pre ∧ Good rs ∧ (∀ x ∈ rs, x.id ≤ 9223372036854775807) ∧ wr.ownsRow w.heap.size 3 1 u pre.length ((pre.map Hd.id).map (Value.int .i64)) ∧ Kept w wr) (fun _ u _ _ => 100 - lenOf u)
    case atStart => exact ⟨hs, [], r0, none, 0, by simp [sumfr], rfl, rfl, rfl, by rw [HN.out]; exact HB0.out, HR4.out, rfl, fun q hq hne => absurd (List.prefix_nil.1 hq) hne, HG.out, HBD.out, World.ownsRow_nil _ _ _ _, HK4.out⟩
    case round =>
      clear HR HK3 HB0 HK4 HR4
      obtain ⟨rs, pre, r, AO, cO, rfl, rfl, rfl, hrl, hbest, hrs, hvv, hsh, hgr, hbr, how, hkp⟩ := hrel
      have hpv : pre <+: vics hs := ⟨vics rs, hvv.symm⟩
      have hplen := Nat.le_trans hpv.length_le HVL.out
      obtain ⟨s1, s2⟩ := sumfr_some (l := pre) (fun y hy => HVO.out y (hpv.subset hy))
      obtain ⟨S, hS⟩ : ∃ S, f + sumfr pre = S := ⟨_, rfl⟩
      rw [hS]
      have bS1 : 0 ≤ S := by omega
      have bS2 : S ≤ 20000 := by omega
      have HRL := Lib.hid hrl
      have HVV := Lib.hid hvv
      have HSH := Lib.hid hsh
      have HOW := Lib.hid how
      have HK := Lib.hid hkp
      have HS := Lib.hid hS
      rcases best_cases hbest with rfl | ⟨j, rfl, hj⟩
      · have hv0 := best_none hrl hbest
        have hpl := plan_is (vics hs) pre f want hpv hsh (.inl (by rw [hvv, hv0, List.append_nil]))
        have HPL := Lib.hid hpl
        clear hrl hbest hrs hvv hsh hgr hbr how hkp hpv hS hv0 hpl
        go_wp2_with fail
        go_returns
        refine ⟨AO, cO, ?_, ?_, HK.out⟩
        · (rw [HPL.out, HS.out]) <;> rfl
        · rw [HPL.out]; simpa using HOW.out
      · exfalso
        have := HN.out
        omega
  · go_wp2_with (at_builtin; refine wpList_append_own _ rfl _ _ 22 rfl w2.heap.size 41 i0 (.agg #[.int .i64 0, .int .i64 0]) 2 16 Try.underlying22 hi hz0 hz1 hz2 rfl (by decide) _ _ _ rfl HOWN.out ad n c (hs.flatMap Hd.cells) rfl (by rw [hcells_length, HN.out]) (HNW.out ad rfl) (h_oneCells hs) (by unfold maxLen; omega) (by omega) (by simp) ?_; intro v3 W3 hown3 hgrow3 _; have hown3' : W3.ownsRow w2.heap.size 41 2 v3 n (hs.flatMap Hd.cells) := (by simpa using hown3); obtain ⟨MA, MC, rfl⟩ := row_form hown3'; have HK3 := Lib.hid (kept_grown (HK2.out.alloc (.cells #[] 41)) HOWN.out HK2.out.size hgrow3); have HR := Lib.hid (rs_start HK2.out HN.out HOK.out hown3' rfl); clear hown3 hgrow3 hown3')
    clear HOWN HNW
    refine (first_calls MA _ MC hs W3 HN.out (by omega) HR.out.hs HOK.out).mono ?_
    rintro e W4 ⟨r0, rfl, hbest0, q0, rfl⟩
    have HB0 := Lib.hid hbest0
    have HK4 := Lib.hid (HK3.out.drewN q0)
    have HR4 := Lib.hid (HR.out.drewN q0)
    clear hbest0
    generalize (W3.drewN q0) = W4 at *
    go_wp2_with fail
    go_loopw [1, 10, 11] (fun fv u v wr => ∃ (rs pre : List Hd) (r : Int) (AO : Option Addr) (cO : Nat), fv = .int .i64 (f + sumfr pre) ∧ u = .slice AO pre.length cO ∧ v = .int .i64 r ∧ rs.length = hs.length ∧ Best rs hs.length r ∧ Rs wr w.heap.size MA MC rs ∧ vics hs = pre ++ vics rs ∧
      Short f want pre ∧ Good rs ∧ (∀ x ∈ rs, x.id ≤ 9223372036854775807) ∧ wr.ownsRow w.heap.size 3 1 u pre.length ((pre.map Hd.id).map (Value.int .i64)) ∧ Kept w wr) (fun _ u _ _ => 100 - lenOf u)
    case atStart => exact ⟨hs, [], r0, none, 0, by simp [sumfr], rfl, rfl, rfl, by rw [HN.out]; exact HB0.out, HR4.out, rfl, fun q hq hne => absurd (List.prefix_nil.1 hq) hne, HG.out, HBD.out, World.ownsRow_nil _ _ _ _, HK4.out⟩
    case round =>
      clear HR HK3 HB0 HK4 HR4
      obtain ⟨rs, pre, r, AO, cO, rfl, rfl, rfl, hrl, hbest, hrs, hvv, hsh, hgr, hbr, how, hkp⟩ := hrel
      have hpv : pre <+: vics hs := ⟨vics rs, hvv.symm⟩
      have hplen := Nat.le_trans hpv.length_le HVL.out
      obtain ⟨s1, s2⟩ := sumfr_some (l := pre) (fun y hy => HVO.out y (hpv.subset hy))
      obtain ⟨S, hS⟩ : ∃ S, f + sumfr pre = S := ⟨_, rfl⟩
      rw [hS]
      have bS1 : 0 ≤ S := by omega
      have bS2 : S ≤ 20000 := by omega
      have HRL := Lib.hid hrl
      have HVV := Lib.hid hvv
      have HSH := Lib.hid hsh
      have HOW := Lib.hid how
      have HK := Lib.hid hkp
      have HS := Lib.hid hS
      rcases best_cases hbest with rfl | ⟨j, rfl, hj⟩
      · have hv0 := best_none hrl hbest
        have hpl := plan_is (vics hs) pre f want hpv hsh (.inl (by rw [hvv, hv0, List.append_nil]))
        have HPL := Lib.hid hpl
        clear hrl hbest hrs hvv hsh hgr hbr how hkp hpv hS hv0 hpl
        go_wp2_with fail
        go_returns
        refine ⟨AO, cO, ?_, ?_, HK.out⟩
        · (rw [HPL.out, HS.out]) <;> rfl
        · rw [HPL.out]; simpa using HOW.out
      · have z0 : decide ((0 : Int) ≤ (j : Int)) = true := decide_eq_true (by omega)
        by_cases hlt : S < want
        · obtain ⟨x, hx, hxf, hle⟩ := best_some hrl hbest
          obtain ⟨p1, p2, p3⟩ := vics_pop hgr hbr hx hxf hle
          obtain ⟨g, hMA, hrow, hgl⟩ := hrs (by rintro rfl; simp at hx)
          try cases hMA
          try subst hMA
          have hjn : j < n := by have := HN.out; omega
          have hp2l : pre.length < 64 := by
            have h1 := HVL.out
            rw [hvv, p1] at h1
            simp at h1
            omega
          obtain ⟨c1, c2⟩ := hrow.at_ hx
          have hfz := (show ∃ cs, Blk wr g 41 cs from ⟨_, hrow.choose_spec.1⟩)
          obtain ⟨cs, hcs⟩ := hfz
          have hxb := HVO.out x (by rw [hvv, p1]; simp)
          obtain ⟨_, _, x3, x4⟩ := hxb
          have HX := Lib.hid hx
          have HP1 := Lib.hid p1
          have HP2 := Lib.hid p2
          have HP3 := Lib.hid p3
          have HRW := Lib.hid hrow
          have HCS := Lib.hid hcs
          have hws := hkp.size
          have hgw := hcs.lt
          have HRA := Lib.hid (show Row (wr.alloc (.cells #[.int .i64 x.id] 3)) g MC rs from hrow.keep ((Only.refl (fun _ => False) wr).alloc _) (fun f => f))
          have z1 : (0 : Int) ≤ (j : Int) := by omega
          have z2 : (j : Int) < ((n : Nat) : Int) := by omega
          clear hrl hbest hrs hvv hsh hgr hbr how hkp hpv hS hx hxf hle p1 p2 p3 hrow hcs
          go_wp2_with (at_builtin; refine wpList_append_own _ rfl _ _ 27 rfl w.heap.size 3 i3 (.int .i64 0) 1 8 Try.underlying27 hi3 h30 h31 h32 rfl (by decide) _ _ _ rfl (HOW.out.alloc _) ⟨wr.heap.size, 0, none⟩ 1 1 [.int .i64 x.id] rfl rfl (by intro j u hu; have := (Blk.new wr 3 #[.int .i64 x.id]).cell j; cases j with | zero => simpa [Addr.add] using this.trans hu | succ j => simp at hu) (by intro u hu; simp at hu; subst hu; rfl) (by unfold maxLen; omega) (by omega) (by simp; omega) ?_; intro v5 w5 hown5 hgrow5 _; obtain ⟨AO5, cO5, rfl⟩ := row_form hown5; have hr5 := row_grown HRA.out (HOW.out.alloc _) hgrow5; obtain ⟨e1, e2⟩ := hr5.at_ HX.out; have ef := (hr5.choose_spec.1).frozen (j * 2 + 1); have HR5 := Lib.hid hr5; have HO5 := Lib.hid hown5; have HK5 := Lib.hid (kept_grown (HK.out.alloc (.cells #[.int .i64 x.id] 3)) (HOW.out.alloc _) (Nat.le_refl _) hgrow5); clear hown5 hgrow5 hr5)
          have hrow6 := row_zero HR5.out HX.out rfl
          have HR6 := Lib.hid hrow6
          have HK6 := Lib.hid (HK5.out.setNew (q := g) (o := j * 2 + 1) hgl (.int .i64 0))
          have HO6 := Lib.hid (HO5.out.kept (grownBy_cell w5 g (j * 2 + 1) (.int .i64 0)) (.inr (fun e => by
            obtain ⟨c9, h9⟩ := own_blk HO5.out e
            have h8 := HR5.out.choose_spec.1
            exact h8.ne_ h9 (by decide) rfl)))
          generalize (w5.setCell ⟨g, j * 2 + 1, none⟩ (.int .i64 0)) = w6 at *
          clear hrow6 e1 e2 ef
          refine (first_calls (some ⟨g, 0, none⟩) _ MC (rs.set j ⟨x.id, 0⟩) w6 (by rw [List.length_set, HRL.out, HN.out]) (by omega) (hs_of_row HR6.out) (good_ok HP2.out HP3.out)).mono ?_
          rintro e w7 ⟨r7, rfl, hbest7, q7, rfl⟩
          have HB7 := Lib.hid hbest7
          clear hbest7
          go_wp2_with fail
          go_roundw
          case rel =>
            have hsum : f + sumfr (pre ++ [x]) = S + x.fr := by rw [sumfr_snoc, ← HS.out]; omega
            refine ⟨rs.set j ⟨x.id, 0⟩, pre ++ [x], r7, AO5, cO5, by rw [hsum], by simp, rfl, by rw [List.length_set]; exact HRL.out, by rw [HN.out]; exact HB7.out, fun _ => ⟨g, rfl, HR6.out, hgl⟩, by rw [HVV.out, HP1.out]; simp, short_snoc x HSH.out (by rw [HS.out]; exact hlt), HP2.out, HP3.out, ?_, HK6.out.drewN _⟩
            have h : (w6.drewN q7).ownsRow _ _ _ _ _ _ := HO6.out
            simpa using h
          case measure => simp [lenOf]; omega
        · have hpl := plan_is (vics hs) pre f want hpv hsh (.inr (by omega))
          have HPL := Lib.hid hpl
          clear hrl hbest hrs hvv hsh hgr hbr how hkp hpv hS hpl
          go_wp2_with fail
          go_returns
          refine ⟨AO, cO, ?_, ?_, HK.out⟩
          · (rw [HPL.out, HS.out]) <;> rfl
          · rw [HPL.out]; simpa using HOW.out

theorem rplan_calls (A : Option Addr) (n c : Nat) (hs : List Hd) (f want : Int) (w : World) (hn : hs.length = n) (hb : n ≤ 9223372036854775807) (hL : Hs w A hs) (hbd : ∀ x ∈ hs, x.id ≤ 9223372036854775807) (hA0 : A = none → c = 0) :
    Calls Try.prog 12 #[.slice A n c, .int .i64 f, .int .i64 want] w fun e w' => ∃ A' c', e = .returned (.tuple #[.slice A' (planv hs f want).out.length c', .int .i64 (planv hs f want).free, .int .i64 (planv hs f want).err]) ∧
      w'.ownsRow w.heap.size 3 1 (.slice A' (planv hs f want).out.length c') (planv hs f want).out.length (((planv hs f want).out.map Hd.id).map (Value.int .i64)) ∧ Kept w w' := by
  by_cases hg : Good hs ∧ 0 ≤ f ∧ f ≤ 10000 ∧ 0 ≤ want ∧ want ≤ 10000
  · have e : planv hs f want = ⟨plan (vics hs) f want, f + sumfr (plan (vics hs) f want), 0⟩ := by unfold planv; rw [if_pos hg]
    rw [e]
    obtain ⟨h1, h2, h3, h4, h5⟩ := hg
    exact rplan_good A n c hs f want w hn hL hA0 h1 h2 h3 h4 h5 hbd
  · have e : planv hs f want = ⟨[], 0, 2⟩ := by unfold planv; rw [if_neg hg]
    rw [e]
    refine (rplan_bad A n c hs f want w hn hb hL hg).mono ?_
    rintro e w' ⟨rfl, hk⟩
    exact ⟨none, 0, rfl, World.ownsRow_nil _ _ _ _, hk⟩
end Go.Proofs.Ytflljldmcidhgaa
