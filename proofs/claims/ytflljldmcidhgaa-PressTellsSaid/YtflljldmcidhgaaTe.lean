/- PressTells: the walk. -/
import Derived.Test.YtflljldmcidhgaaRp
namespace Go.Proofs.Ytflljldmcidhgaa
open Go.RowKit
set_option linter.unusedVariables false
set_option linter.unusedSimpArgs false
set_option linter.unnecessarySimpa false

theorem Hs.over {wa wx wy : World} {A : Option Addr} {hs : List Hd} (h : Hs wa A hs) (hk : Kept wa wx) (ho : Only (fun k => wa.heap.size ≤ k) wx wy) : Hs wy A hs := fun hne => by
  obtain ⟨g, o, rfl, hg, hc⟩ := h hne
  refine ⟨g, o, rfl, by have := hk.size; have := ho.size; omega, fun i x hx => ?_⟩
  obtain ⟨c1, c2⟩ := hc i x hx
  exact ⟨only_cell ho (kept_cell hk c1) (by show ¬ _ ≤ g; omega), only_cell ho (kept_cell hk c2) (by show ¬ _ ≤ g; omega)⟩

set_option maxRecDepth 100000 in
set_option maxHeartbeats 8000000 in
theorem tells_calls (A : Option Addr) (n c : Nat) (hs : List Hd) (x1 x2 : Int) (w : World) (hn : hs.length = n) (hb : n ≤ 9223372036854775807) (hL : Hs w A hs) (hwd : ∀ x ∈ hs, Hd.wide x) (hA0 : A = none → c = 0)
    (a1 : -9223372036854775808 ≤ x1) (a2 : x1 ≤ 9223372036854775807) (a3 : -9223372036854775808 ≤ x2) (a4 : x2 ≤ 9223372036854775807) :
    Calls Try.prog 3 #[.slice A n c, .int .i64 x1, .int .i64 x2] w fun e w' => e = .returned (.bool true) ∧ Kept w w' := by
  obtain ⟨i0, hi, hz0, hz1, hz2⟩ := info_parts (show (Try.prog.info? 41).map (fun i => (i.zero, i.size, i.bytes)) = some (some (.agg #[.int .i64 0, .int .i64 0]), 2, 16) by kernel_rfl)
  have hbd : ∀ x ∈ hs, x.id ≤ 9223372036854775807 := fun x hx => (hwd x hx).2.1
  have hcut : (A = none ∧ n = 0 ∧ c = 0) ∨ ∃ ad, A = some ad := by
    cases hA : A with
    | none =>
      refine .inl ⟨rfl, ?_, hA0 hA⟩
      cases hh : hs with
      | nil => rw [← hn, hh]; rfl
      | cons y l =>
        obtain ⟨g, o, e, _⟩ := hL (by rw [hh]; simp)
        rw [hA] at e; cases e
    | some ad => exact .inr ⟨ad, rfl⟩
  have hpl : (planv hs x1 x2).out.length ≤ 1000 := by
    unfold planv
    split
    · rename_i hq
      have h1 := (plan_prefix (vics hs) x1 x2).length_le
      have h2 := (vics_perm hs).length_eq
      have h3 := List.length_filter_le (fun x : Hd => decide (0 < x.fr)) hs
      have h4 := hq.1.1
      unfold full at h2
      simp only
      omega
    · simp
  have HL := Lib.hid hL
  have HN := Lib.hid hn
  have HBD := Lib.hid hbd
  have HPL := Lib.hid hpl
  have HA0 := Lib.hid hA0
  clear hL hn hbd hwd hpl hA0
  by_cases h80 : 80 < n
  · clear hcut
    go_enter Try.func3, Try.ntmps3
    go_wp2_with fail
    refine (awake_calls _).mono ?_
    rintro e w1 ⟨rfl, hk1⟩
    have HK1 := Lib.hid hk1
    clear hk1
    go_wp2_with fail
    go_returns
    exact ⟨rfl, HK1.out⟩
  go_enter Try.func3, Try.ntmps3
  have HOWN := Lib.hid (World.ownsRow_made (base := w.heap.size) (e := 41) (size := 2) w #[] 0 (Nat.le_refl _) (by unfold maxLen; omega) rfl)
  have HNW := Lib.hid (fun (ad : Addr) (h : A = some ad) => hs_news (w' := w.alloc (.cells #[] 41)) (h ▸ HL.out) ((Only.refl (fun _ => False) w).alloc _))
  rcases hcut with ⟨rfl, rfl, rfl⟩ | ⟨ad, rfl⟩
  · go_wp2_with (at_builtin; refine wpList_append_own_none rfl _ _ 22 rfl w.heap.size 41 i0 2 Try.underlying22 hi _ 0 [] rfl HOWN.out rfl ?_)
    have HK3 := Lib.hid ((Only.refl (fun _ => False) w).alloc (.cells #[] 41))
    have hnil : hs = [] := List.eq_nil_of_length_eq_zero HN.out
    obtain ⟨g, hg⟩ : ∃ g, w.heap.size = g := ⟨_, rfl⟩
    rw [hg]
    have HR := Lib.hid (show Hs (w.alloc (.cells #[] 41)) (some ⟨g, 0, none⟩) hs from fun hne => absurd hnil hne)
    clear hg HOWN HNW hnil
    generalize (w.alloc (.cells #[] 41)) = W3 at *
    refine (victim_calls (some ⟨g, 0, none⟩) 0 0 hs W3 HN.out (by omega) HR.out HBD.out).mono ?_
    rintro e w4 ⟨rfl, hk4⟩
    have HK4 := Lib.hid (HK3.out.trans hk4)
    have HR4 := Lib.hid (HR.out.kept hk4)
    clear hk4
    go_wp2_with fail
    refine (rvictim_calls none 0 0 hs w4 HN.out (by omega) (HL.out.kept HK4.out) HBD.out).mono ?_
    rintro e w5 ⟨rfl, hk5⟩
    have HK5 := Lib.hid (HK4.out.trans hk5)
    have HR5 := Lib.hid (HR4.out.kept hk5)
    clear hk5
    go_wp2_with fail
    refine (plan_calls (some ⟨g, 0, none⟩) 0 0 hs x1 x2 w5 HN.out (by omega) HR5.out HBD.out).mono ?_
    rintro e w6 ⟨AP, cP, rfl, hoP, hk6⟩
    have HK56 := Lib.hid hk6
    have HK6 := Lib.hid (HK5.out.trans hk6)
    have HR6 := Lib.hid (HR5.out.kept hk6)
    have HOP := Lib.hid hoP
    clear hk6 hoP
    go_wp2_with fail
    refine (rplan_calls none 0 0 hs x1 x2 w6 HN.out (by omega) (HL.out.kept HK6.out) HBD.out (fun _ => rfl)).mono ?_
    rintro e w7 ⟨AQ, cQ, rfl, hoQ, hk7⟩
    have HK57 := Lib.hid (HK56.out.trans hk7)
    have HK7 := Lib.hid (HK6.out.trans hk7)
    have HR7 := Lib.hid (HR6.out.kept hk7)
    have HOP7 := Lib.hid (own_keep HOP.out hk7)
    have HIQ := Lib.hid (ints_of_own hoQ)
    clear hk7 hoQ
    obtain ⟨V, hV⟩ : ∃ V, victimv hs = V := ⟨_, rfl⟩
    obtain ⟨P, hP⟩ : ∃ P, planv hs x1 x2 = P := ⟨_, rfl⟩
    rw [hP] at HOP HOP7 HIQ HPL ⊢
    rw [hV]
    clear hV hP
    go_wp2_with fail
    refine (same_ints AP AQ P.out.length cP cQ (P.out.map Hd.id) w7 (by rw [List.length_map]) (by have := HPL.out; omega) (ints_of_own HOP7.out) HIQ.out).mono ?_
    rintro e w8 ⟨rfl, q8, rfl⟩
    have HK58 := Lib.hid (HK57.out.drewN q8)
    have HK8 := Lib.hid (HK7.out.drewN q8)
    have HR8 := Lib.hid (HR7.out.kept ((Only.refl (fun _ => False) w7).drewN q8))
    have HOP8 := Lib.hid (own_keep HOP7.out ((Only.refl (fun _ => False) w7).drewN q8))
    generalize (w7.drewN q8) = w8 at *
    go_wp2_with fail
    refine (check_calls (some ⟨g, 0, none⟩) 0 0 hs w8 HN.out (by omega) HR8.out).mono ?_
    rintro e w9 ⟨rfl, hk9⟩
    have HK59 := Lib.hid (HK58.out.trans hk9)
    have HK9 := Lib.hid (HK8.out.trans hk9)
    have HR9 := Lib.hid (HR8.out.kept hk9)
    have HOP9 := Lib.hid (own_keep HOP8.out hk9)
    clear hk9
    go_wp2_with fail
    refine (rcheck_calls none 0 0 hs w9 HN.out (by omega) (HL.out.kept HK9.out)).mono ?_
    rintro e w10 ⟨rfl, hk10⟩
    have HK510 := Lib.hid (HK59.out.trans hk10)
    have HK10 := Lib.hid (HK9.out.trans hk10)
    have HR10 := Lib.hid (HR9.out.kept hk10)
    have HOP10 := Lib.hid (own_keep HOP9.out hk10)
    clear hk10
    go_wp2_with fail
    refine (held_calls (some ⟨g, 0, none⟩) 0 0 hs w10 HN.out (by omega) HR10.out).mono ?_
    rintro e w11 ⟨rfl, hk11⟩
    have HK511 := Lib.hid (HK510.out.trans hk11)
    have HK11 := Lib.hid (HK10.out.trans hk11)
    have HR11 := Lib.hid (HR10.out.kept hk11)
    have HOP11 := Lib.hid (own_keep HOP10.out hk11)
    clear hk11
    go_wp2_with fail
    refine (rheld_calls none 0 0 hs w11 HN.out (by omega) (HL.out.kept HK11.out)).mono ?_
    rintro e w12 ⟨rfl, hk12⟩
    have HK512 := Lib.hid (HK511.out.trans hk12)
    have HK12 := Lib.hid (HK11.out.trans hk12)
    have HOP12 := Lib.hid (own_keep HOP11.out hk12)
    clear hk12
    go_wp2_with fail
    refine (over_calls w5.heap.size AP P.out.length cP _ w12 (by have := HPL.out; omega) HOP12.out).mono ?_
    rintro e w13 ⟨⟨v13, rfl⟩, ho13⟩
    have HS1 := Lib.hid (HR5.out.over HK512.out ho13)
    have HS2 := Lib.hid ((HL.out.kept HK5.out).over HK512.out ho13)
    have HK13 := Lib.hid (HK12.out.trans' ho13 (fun q hq e => by have := HK5.out.size; omega))
    clear ho13
    go_wp2_with fail
    refine (same_calls (some ⟨g, 0, none⟩) none 0 0 0 hs w13 HN.out (by omega) HS1.out HS2.out).mono ?_
    rintro e w14 ⟨rfl, q14, rfl⟩
    have HK14 := Lib.hid (HK13.out.drewN q14)
    go_wp2_with fail
    refine (awake_calls _).mono ?_
    rintro e w15 ⟨rfl, hk15⟩
    have HK15 := Lib.hid (HK14.out.trans hk15)
    clear hk15
    go_wp2_with fail
    go_returns
    exact ⟨by simp, HK15.out⟩
  · go_wp2_with (at_builtin; refine wpList_append_own _ rfl _ _ 22 rfl w.heap.size 41 i0 (.agg #[.int .i64 0, .int .i64 0]) 2 16 Try.underlying22 hi hz0 hz1 hz2 rfl (by decide) _ _ _ rfl HOWN.out ad n c (hs.flatMap Hd.cells) rfl (by rw [hcells_length, HN.out]) (HNW.out ad rfl) (h_oneCells hs) (by unfold maxLen; omega) (by omega) (by simp) ?_; intro v3 W3 hown3 hgrow3 _; have hown3' : W3.ownsRow w.heap.size 41 2 v3 n (hs.flatMap Hd.cells) := (by simpa using hown3); obtain ⟨MA, MC, rfl⟩ := row_form hown3'; have HK3 := Lib.hid (kept_grown ((Only.refl (fun _ => False) w).alloc (.cells #[] 41)) HOWN.out (Nat.le_refl _) hgrow3); have HR := Lib.hid (hs_of_own hown3'); clear hown3 hgrow3 hown3')
    clear HOWN HNW
    refine (victim_calls MA n MC hs W3 HN.out (by omega) HR.out HBD.out).mono ?_
    rintro e w4 ⟨rfl, hk4⟩
    have HK4 := Lib.hid (HK3.out.trans hk4)
    have HR4 := Lib.hid (HR.out.kept hk4)
    clear hk4
    go_wp2_with fail
    refine (rvictim_calls (some ad) n c hs w4 HN.out (by omega) (HL.out.kept HK4.out) HBD.out).mono ?_
    rintro e w5 ⟨rfl, hk5⟩
    have HK5 := Lib.hid (HK4.out.trans hk5)
    have HR5 := Lib.hid (HR4.out.kept hk5)
    clear hk5
    go_wp2_with fail
    refine (plan_calls MA n MC hs x1 x2 w5 HN.out (by omega) HR5.out HBD.out).mono ?_
    rintro e w6 ⟨AP, cP, rfl, hoP, hk6⟩
    have HK56 := Lib.hid hk6
    have HK6 := Lib.hid (HK5.out.trans hk6)
    have HR6 := Lib.hid (HR5.out.kept hk6)
    have HOP := Lib.hid hoP
    clear hk6 hoP
    go_wp2_with fail
    refine (rplan_calls (some ad) n c hs x1 x2 w6 HN.out (by omega) (HL.out.kept HK6.out) HBD.out (fun e => by cases e)).mono ?_
    rintro e w7 ⟨AQ, cQ, rfl, hoQ, hk7⟩
    have HK57 := Lib.hid (HK56.out.trans hk7)
    have HK7 := Lib.hid (HK6.out.trans hk7)
    have HR7 := Lib.hid (HR6.out.kept hk7)
    have HOP7 := Lib.hid (own_keep HOP.out hk7)
    have HIQ := Lib.hid (ints_of_own hoQ)
    clear hk7 hoQ
    obtain ⟨V, hV⟩ : ∃ V, victimv hs = V := ⟨_, rfl⟩
    obtain ⟨P, hP⟩ : ∃ P, planv hs x1 x2 = P := ⟨_, rfl⟩
    rw [hP] at HOP HOP7 HIQ HPL ⊢
    rw [hV]
    clear hV hP
    go_wp2_with fail
    refine (same_ints AP AQ P.out.length cP cQ (P.out.map Hd.id) w7 (by rw [List.length_map]) (by have := HPL.out; omega) (ints_of_own HOP7.out) HIQ.out).mono ?_
    rintro e w8 ⟨rfl, q8, rfl⟩
    have HK58 := Lib.hid (HK57.out.drewN q8)
    have HK8 := Lib.hid (HK7.out.drewN q8)
    have HR8 := Lib.hid (HR7.out.kept ((Only.refl (fun _ => False) w7).drewN q8))
    have HOP8 := Lib.hid (own_keep HOP7.out ((Only.refl (fun _ => False) w7).drewN q8))
    generalize (w7.drewN q8) = w8 at *
    go_wp2_with fail
    refine (check_calls MA n MC hs w8 HN.out (by omega) HR8.out).mono ?_
    rintro e w9 ⟨rfl, hk9⟩
    have HK59 := Lib.hid (HK58.out.trans hk9)
    have HK9 := Lib.hid (HK8.out.trans hk9)
    have HR9 := Lib.hid (HR8.out.kept hk9)
    have HOP9 := Lib.hid (own_keep HOP8.out hk9)
    clear hk9
    go_wp2_with fail
    refine (rcheck_calls (some ad) n c hs w9 HN.out (by omega) (HL.out.kept HK9.out)).mono ?_
    rintro e w10 ⟨rfl, hk10⟩
    have HK510 := Lib.hid (HK59.out.trans hk10)
    have HK10 := Lib.hid (HK9.out.trans hk10)
    have HR10 := Lib.hid (HR9.out.kept hk10)
    have HOP10 := Lib.hid (own_keep HOP9.out hk10)
    clear hk10
    go_wp2_with fail
    refine (held_calls MA n MC hs w10 HN.out (by omega) HR10.out).mono ?_
    rintro e w11 ⟨rfl, hk11⟩
    have HK511 := Lib.hid (HK510.out.trans hk11)
    have HK11 := Lib.hid (HK10.out.trans hk11)
    have HR11 := Lib.hid (HR10.out.kept hk11)
    have HOP11 := Lib.hid (own_keep HOP10.out hk11)
    clear hk11
    go_wp2_with fail
    refine (rheld_calls (some ad) n c hs w11 HN.out (by omega) (HL.out.kept HK11.out)).mono ?_
    rintro e w12 ⟨rfl, hk12⟩
    have HK512 := Lib.hid (HK511.out.trans hk12)
    have HK12 := Lib.hid (HK11.out.trans hk12)
    have HOP12 := Lib.hid (own_keep HOP11.out hk12)
    clear hk12
    go_wp2_with fail
    refine (over_calls w5.heap.size AP P.out.length cP _ w12 (by have := HPL.out; omega) HOP12.out).mono ?_
    rintro e w13 ⟨⟨v13, rfl⟩, ho13⟩
    have HS1 := Lib.hid (HR5.out.over HK512.out ho13)
    have HS2 := Lib.hid ((HL.out.kept HK5.out).over HK512.out ho13)
    have HK13 := Lib.hid (HK12.out.trans' ho13 (fun q hq e => by have := HK5.out.size; omega))
    clear ho13
    go_wp2_with fail
    refine (same_calls MA (some ad) n MC c hs w13 HN.out (by omega) HS1.out HS2.out).mono ?_
    rintro e w14 ⟨rfl, q14, rfl⟩
    have HK14 := Lib.hid (HK13.out.drewN q14)
    go_wp2_with fail
    refine (awake_calls _).mono ?_
    rintro e w15 ⟨rfl, hk15⟩
    have HK15 := Lib.hid (HK14.out.trans hk15)
    clear hk15
    go_wp2_with fail
    go_returns
    exact ⟨by simp, HK15.out⟩
end Go.Proofs.Ytflljldmcidhgaa
