/- PressTurned: the walk. -/
import Derived.Laws.AppendOwnNone
import Derived.Test.YtflljldmcidhgaaLw
import Derived.Test.YtflljldmcidhgaaQuiet
namespace Go.Proofs.Ytflljldmcidhgaa
open Go.RowKit
set_option linter.unusedVariables false
set_option linter.unusedSimpArgs false
set_option linter.unnecessarySimpa false

theorem row_swapped {w w' : World} {ib cap : Nat} {l : List Hd} {i j : Nat} {x y : Hd} {cs : Array Value} (h1 : Blk w ib 41 cs) (h2 : cs.size = cap * 2)
    (h3 : ∀ (k : Nat) (x : Hd), l[k]? = some x → cs[k * 2]? = some (Value.int .i64 x.id) ∧ cs[k * 2 + 1]? = some (Value.int .i64 x.fr) ∧ Hok x) (hx : l[i]? = some x) (hy : l[j]? = some y)
    (hb : Blk w' ib 41 ((((cs.setIfInBounds (i * 2) (.int .i64 y.id)).setIfInBounds (i * 2 + 1) (.int .i64 y.fr)).setIfInBounds (j * 2) (.int .i64 x.id)).setIfInBounds (j * 2 + 1) (.int .i64 x.fr))) :
    Row w' ib cap (swp l i j) := by
  have hi := (List.getElem?_eq_some_iff.1 hx).1
  have hj := (List.getElem?_eq_some_iff.1 hy).1
  obtain ⟨x1, x2, x3⟩ := h3 i x hx
  obtain ⟨y1, y2, y3⟩ := h3 j y hy
  have bi := (Array.getElem?_eq_some_iff.1 x2).1
  have bj := (Array.getElem?_eq_some_iff.1 y2).1
  refine ⟨_, hb, by simpa using h2, fun k z hz => ?_⟩
  rw [swp_get l hi hj] at hz
  by_cases e1 : k = j
  · subst e1
    rw [if_pos rfl, hx] at hz
    cases hz
    refine ⟨?_, ?_, x3⟩
    · rw [Array.getElem?_setIfInBounds_ne (by omega)]
      exact Array.getElem?_setIfInBounds_self_of_lt (by (try simp); omega)
    · exact Array.getElem?_setIfInBounds_self_of_lt (by (try simp); omega)
  · by_cases e2 : k = i
    · subst e2
      rw [if_neg e1, if_pos rfl, hy] at hz
      cases hz
      refine ⟨?_, ?_, y3⟩
      · rw [Array.getElem?_setIfInBounds_ne (by omega), Array.getElem?_setIfInBounds_ne (by omega), Array.getElem?_setIfInBounds_ne (by omega)]
        exact Array.getElem?_setIfInBounds_self_of_lt (by (try simp); omega)
      · rw [Array.getElem?_setIfInBounds_ne (by omega), Array.getElem?_setIfInBounds_ne (by omega)]
        exact Array.getElem?_setIfInBounds_self_of_lt (by (try simp); omega)
    · rw [if_neg e1, if_neg e2] at hz
      rw [Array.getElem?_setIfInBounds_ne (by omega), Array.getElem?_setIfInBounds_ne (by omega), Array.getElem?_setIfInBounds_ne (by omega), Array.getElem?_setIfInBounds_ne (by omega), Array.getElem?_setIfInBounds_ne (by omega), Array.getElem?_setIfInBounds_ne (by omega), Array.getElem?_setIfInBounds_ne (by omega), Array.getElem?_setIfInBounds_ne (by omega)]
      exact h3 k z hz

/-- The cells of a list that came in. -/
theorem hs_news {w w' : World} {ad : Addr} {hs : List Hd} (h : Hs w (some ad) hs) (hk : Kept w w') : ∀ j u, (hs.flatMap Hd.cells)[j]? = some u → w'.cell? (ad.add j) = some u := by
  intro j u hu
  have hj : j < hs.length * 2 := by have := (List.getElem?_eq_some_iff.1 hu).1; rwa [hcells_length] at this
  obtain ⟨x, hx⟩ : ∃ x, hs[j / 2]? = some x := ⟨_, List.getElem?_eq_getElem (by omega)⟩
  obtain ⟨g, o, e, _, hc⟩ := h (by rintro rfl; simp at hx)
  cases e
  obtain ⟨c1, c2⟩ := hc (j / 2) x hx
  have hf := hflat_get hs (j / 2) (j % 2) x hx (by omega)
  rw [show j / 2 * 2 + j % 2 = j by omega, hu] at hf
  rw [Addr.add_lit]
  rcases (show j % 2 = 0 ∨ j % 2 = 1 by omega) with e | e
  · rw [e] at hf
    have : u = .int .i64 x.id := by simpa [Hd.cells] using hf
    rw [this, show o + j = o + j / 2 * 2 by omega]
    exact kept_cell hk c1
  · rw [e] at hf
    have : u = .int .i64 x.fr := by simpa [Hd.cells] using hf
    rw [this, show o + j = o + j / 2 * 2 + 1 by omega]
    exact kept_cell hk c2

theorem h_oneCells (hs : List Hd) : ∀ u ∈ hs.flatMap Hd.cells, u.oneCell' = true := by
  intro u hu
  obtain ⟨x, _, hx⟩ := List.mem_flatMap.1 hu
  exact h_oneCell x u hx

/-- The copy that was turned: a row of its own. -/
structure TurnAt (w wr : World) (g cap n : Nat) (hs ms : List Hd) : Prop where
  row : Row wr g cap ms
  perm : ms.Perm hs
  kept : Kept w wr
  gl : w.heap.size ≤ g

theorem TurnAt.keep {w wr w' : World} {g cap n : Nat} {hs ms : List Hd} (h : TurnAt w wr g cap n hs ms) (hk : Kept wr w') : TurnAt w w' g cap n hs ms :=
  ⟨h.row.keep hk (fun f => f), h.perm, h.kept.trans hk, h.gl⟩

theorem turn_start {w w2 W3 : World} {g cap n : Nat} {hs : List Hd} (hk : Kept w w2) (ho0 : (w2.alloc (.cells #[] 41)).ownsRow w2.heap.size 41 2 (.slice (some ⟨w2.heap.size, 0, none⟩) 0 0) 0 [])
    (hn : hs.length = n) (hok : ∀ x ∈ hs, Hok x) (ho : W3.ownsRow w2.heap.size 41 2 (.slice (some ⟨g, 0, none⟩) n cap) n (hs.flatMap Hd.cells)) (hg : (w2.alloc (.cells #[] 41)).grownBy W3 (some w2.heap.size)) :
    TurnAt w W3 g cap n hs hs ∧ n ≤ cap := by
  obtain ⟨r1, r2, r3, r4⟩ := own_row ho hn hok
  exact ⟨⟨r1, List.Perm.refl _, kept_grown (hk.alloc (.cells #[] 41)) ho0 hk.size hg, Nat.le_trans hk.size r4⟩, r2⟩

theorem hs_of_row {w : World} {g cap : Nat} {ms : List Hd} (h : Row w g cap ms) : Hs w (some ⟨g, 0, none⟩) ms := fun _ => by
  have hr := h
  obtain ⟨cs, h1, _⟩ := h
  refine ⟨g, 0, rfl, h1.lt, fun i x hx => ?_⟩
  obtain ⟨a, b⟩ := hr.at_ hx
  rw [Nat.zero_add]
  exact ⟨a, b⟩

theorem planv_turned {hs ms : List Hd} (h : Good hs) (hb : ∀ x ∈ hs, x.id ≤ 9223372036854775807) (hp : hs.Perm ms) (f want : Int) : planv hs f want = planv ms f want := by
  unfold planv
  have e : (Good hs ∧ 0 ≤ f ∧ f ≤ 10000 ∧ 0 ≤ want ∧ want ≤ 10000) ↔ (Good ms ∧ 0 ≤ f ∧ f ≤ 10000 ∧ 0 ≤ want ∧ want ≤ 10000) := ⟨fun q => ⟨h.perm hp, q.2⟩, fun q => ⟨h, q.2⟩⟩
  rw [vics_turned h hb hp]
  by_cases q : Good hs ∧ 0 ≤ f ∧ f ≤ 10000 ∧ 0 ≤ want ∧ want ≤ 10000
  · rw [if_pos q, if_pos (e.1 q)]
  · rw [if_neg q, if_neg (fun r => q (e.2 r))]

theorem victimv_turned {hs ms : List Hd} (h : Good hs) (hb : ∀ x ∈ hs, x.id ≤ 9223372036854775807) (hp : hs.Perm ms) : victimv hs = victimv ms := by
  unfold victimv
  rw [if_pos h, if_pos (h.perm hp), vics_turned h hb hp]

set_option maxRecDepth 100000 in
set_option maxHeartbeats 8000000 in
theorem turned_calls (A : Option Addr) (n c : Nat) (hs : List Hd) (x1 x2 : Int) (SA : Option Addr) (m cS : Nat) (sw : List Int) (w : World) (hn : hs.length = n) (hb : n ≤ 9223372036854775807) (hL : Hs w A hs) (hwd : ∀ x ∈ hs, Hd.wide x) (hA0 : A = none → c = 0)
    (a1 : -9223372036854775808 ≤ x1) (a2 : x1 ≤ 9223372036854775807) (a3 : -9223372036854775808 ≤ x2) (a4 : x2 ≤ 9223372036854775807)
    (hm : sw.length = m) (hbm : m ≤ 9223372036854775807) (hS : Ints w SA sw) (hsb : ∀ a ∈ sw, (-9223372036854775808 : Int) ≤ a ∧ a ≤ 9223372036854775807) :
    Calls Try.prog 5 #[.slice A n c, .int .i64 x1, .int .i64 x2, .slice SA m cS] w fun e w' => e = .returned (.bool true) ∧ Kept w w' := by
  obtain ⟨i0, hi, hz0, hz1, hz2⟩ := info_parts (show (Try.prog.info? 41).map (fun i => (i.zero, i.size, i.bytes)) = some (some (.agg #[.int .i64 0, .int .i64 0]), 2, 16) by kernel_rfl)
  obtain ⟨F, hF, bF⟩ := pick_num x1 10001 (by omega)
  obtain ⟨G, hG, bG⟩ := pick_num x2 10001 (by omega)
  have hbd : ∀ x ∈ hs, x.id ≤ 9223372036854775807 := fun x hx => (hwd x hx).2.1
  have HF := Lib.hid hF
  have HG := Lib.hid hG
  have HL := Lib.hid hL
  have HN := Lib.hid hn
  have HBD := Lib.hid hbd
  have HM := Lib.hid hm
  have HS := Lib.hid hS
  have HSB := Lib.hid hsb
  clear hF hG hL hn hbd hwd hm hS hsb
  go_enter Try.func5, Try.ntmps5
  go_wp2_with fail
  refine (known_calls _).mono ?_
  rintro e w1 ⟨rfl, hk1⟩
  have HK1 := Lib.hid hk1
  clear hk1
  go_wp2_with fail
  refine (check_calls A n c hs w1 HN.out hb (HL.out.kept HK1.out)).mono ?_
  by_cases hg : Good hs
  · rw [chk_good hg]
    rintro e w2 ⟨rfl, hk2⟩
    have HK2 := Lib.hid (HK1.out.trans hk2)
    have h64 : n ≤ 64 := by rw [← HN.out]; exact hg.1
    have HGD := Lib.hid hg
    clear hk2 hg
    by_cases h100 : 100 < m
    · go_wp2_with fail
      go_returns
      exact ⟨rfl, HK2.out⟩
    go_wp2_with fail
    refine (pick_nat x1 10001 F _ (by omega) (by omega) a1 a2 HF.out).mono ?_
    rintro e w' ⟨rfl, rfl⟩
    go_wp2_with fail
    refine (pick_nat x2 10001 G _ (by omega) (by omega) a3 a4 HG.out).mono ?_
    rintro e w' ⟨rfl, rfl⟩
    have HOWN := Lib.hid (World.ownsRow_made (base := w2.heap.size) (e := 41) (size := 2) w2 #[] 0 (Nat.le_refl _) (by unfold maxLen; omega) rfl)
    have hpe : (planv hs F G).err = 0 := by unfold planv; rw [if_pos ⟨HGD.out, by omega, by omega, by omega, by omega⟩]
    have hpq : planv hs F G = ⟨(planv hs F G).out, (planv hs F G).free, 0⟩ := by rw [← hpe]
    have hpl : (planv hs F G).out.length ≤ 1000 := by
      have e : (planv hs F G).out = plan (vics hs) F G := by unfold planv; rw [if_pos ⟨HGD.out, by omega, by omega, by omega, by omega⟩]
      rw [e]
      have h1 := (plan_prefix (vics hs) F G).length_le
      have h2 := (vics_perm hs).length_eq
      have h3 := List.length_filter_le (fun x : Hd => decide (0 < x.fr)) hs
      unfold full at h2
      have := HN.out
      omega
    have HPE := Lib.hid hpe
    have HPQ := Lib.hid hpq
    have HPL := Lib.hid hpl
    clear hpe hpq hpl
    by_cases hn0 : n = 0
    · -- no holders at all
      have hnil : hs = [] := List.eq_nil_of_length_eq_zero (by rw [HN.out]; exact hn0)
      have HKEY := Lib.hid (fun (MA : Option Addr) (W : World) => (fun hne => absurd hnil hne : Hs W MA hs))
      have hcut : (A = none ∧ c = 0) ∨ ∃ ad, A = some ad := by
        cases hA : A with
        | none => exact .inl ⟨rfl, hA0 hA⟩
        | some ad => exact .inr ⟨ad, rfl⟩
      have HNW := Lib.hid (fun (ad : Addr) (h : A = some ad) => hs_news (w' := w2.alloc (.cells #[] 41)) (h ▸ HL.out) (HK2.out.alloc _))
      clear hA0 hnil
      subst hn0
      rcases hcut with ⟨rfl, rfl⟩ | ⟨ad, rfl⟩
      · go_wp2_with (at_builtin; refine wpList_append_own_none rfl _ _ 22 rfl w2.heap.size 41 i0 2 Try.underlying22 hi _ 0 [] rfl HOWN.out rfl ?_)
        have HK3 := Lib.hid (HK2.out.alloc (.cells #[] 41))
        generalize (w2.alloc (.cells #[] 41)) = W3 at *
        obtain ⟨g, hg⟩ : ∃ g, w2.heap.size = g := ⟨_, rfl⟩
        rw [hg]
        clear hg HOWN HNW
        have HMS := Lib.hid (show Hs W3 (some ⟨g, 0, none⟩) hs from HKEY.out _ W3)
        go_loopw [11] (fun v wr => v = .int .i64 0 ∧ W3 = wr) (fun _ _ => 0)
        case atStart => exact ⟨rfl, rfl⟩
        case round =>
          obtain ⟨rfl, rfl⟩ := hrel
          by_cases hm0 : 0 < m
          all_goals
            go_wp2_with fail
            refine (plan_calls none 0 0 hs F G W3 HN.out (by omega) (HL.out.kept HK3.out) HBD.out).mono ?_
            rintro e w5 ⟨A5, c5, rfl, ho5, hk5⟩
            have HI5 := Lib.hid (ints_of_own ho5)
            have HK5 := Lib.hid (HK3.out.trans hk5)
            have HM5 := Lib.hid (HMS.out.kept hk5)
            clear ho5 hk5
            rw [HPE.out]
            go_wp2_with fail
            refine (victim_calls none 0 0 hs w5 HN.out (by omega) (HL.out.kept HK5.out) HBD.out).mono ?_
            rintro e w6 ⟨rfl, hk6⟩
            have HK6 := Lib.hid (HK5.out.trans hk6)
            have HI6 := Lib.hid (HI5.out.kept hk6)
            have HM6 := Lib.hid (HM5.out.kept hk6)
            clear hk6
            go_wp2_with fail
            refine (victim_calls (some ⟨g, 0, none⟩) 0 0 hs w6 HN.out (by omega) HM6.out HBD.out).mono ?_
            rw [show victimv hs = victimv hs from rfl]
            rintro e w7 ⟨rfl, hk7⟩
            have HK7 := Lib.hid (HK6.out.trans hk7)
            have HI7 := Lib.hid (HI6.out.kept hk7)
            have HM7 := Lib.hid (HM6.out.kept hk7)
            clear hk7
            go_wp2_with fail
            refine (plans_true (some ⟨g, 0, none⟩) A5 0 0 _ c5 hs (planv hs F G).out F G (planv hs F G).free 0 w7 HN.out rfl (by omega) HPL.out HM7.out HI7.out HBD.out HPQ.out).mono ?_
            rintro e w8 ⟨rfl, hk8⟩
            have HK8 := Lib.hid (HK7.out.trans hk8)
            clear hk8
            go_wp2_with fail
            go_returns
            exact ⟨by simp, HK8.out⟩
      · go_wp2_with (at_builtin; refine wpList_append_own _ rfl _ _ 22 rfl w2.heap.size 41 i0 (.agg #[.int .i64 0, .int .i64 0]) 2 16 Try.underlying22 hi hz0 hz1 hz2 rfl (by decide) _ _ _ rfl HOWN.out ad 0 c (hs.flatMap Hd.cells) rfl (by rw [hcells_length, HN.out]) (HNW.out ad rfl) (h_oneCells hs) (by unfold maxLen; omega) (by omega) (by simp) ?_; intro v3 W3 hown3 hgrow3 _; obtain ⟨MA, MC, rfl⟩ := row_form hown3; have HK3 := Lib.hid (kept_grown (HK2.out.alloc (.cells #[] 41)) HOWN.out (Nat.le_trans HK2.out.size (Nat.le_refl _)) hgrow3); clear hown3 hgrow3)
        clear HOWN HNW
        have HMS := Lib.hid (show Hs W3 MA hs from HKEY.out _ W3)
        go_loopw [11] (fun v wr => v = .int .i64 0 ∧ W3 = wr) (fun _ _ => 0)
        case atStart => exact ⟨rfl, rfl⟩
        case round =>
          obtain ⟨rfl, rfl⟩ := hrel
          by_cases hm0 : 0 < m
          all_goals
            go_wp2_with fail
            refine (plan_calls (some ad) 0 c hs F G W3 HN.out (by omega) (HL.out.kept HK3.out) HBD.out).mono ?_
            rintro e w5 ⟨A5, c5, rfl, ho5, hk5⟩
            have HI5 := Lib.hid (ints_of_own ho5)
            have HK5 := Lib.hid (HK3.out.trans hk5)
            have HM5 := Lib.hid (HMS.out.kept hk5)
            clear ho5 hk5
            rw [HPE.out]
            go_wp2_with fail
            refine (victim_calls (some ad) 0 c hs w5 HN.out (by omega) (HL.out.kept HK5.out) HBD.out).mono ?_
            rintro e w6 ⟨rfl, hk6⟩
            have HK6 := Lib.hid (HK5.out.trans hk6)
            have HI6 := Lib.hid (HI5.out.kept hk6)
            have HM6 := Lib.hid (HM5.out.kept hk6)
            clear hk6
            go_wp2_with fail
            refine (victim_calls MA 0 MC hs w6 HN.out (by omega) HM6.out HBD.out).mono ?_
            rw [show victimv hs = victimv hs from rfl]
            rintro e w7 ⟨rfl, hk7⟩
            have HK7 := Lib.hid (HK6.out.trans hk7)
            have HI7 := Lib.hid (HI6.out.kept hk7)
            have HM7 := Lib.hid (HM6.out.kept hk7)
            clear hk7
            go_wp2_with fail
            refine (plans_true MA A5 0 MC _ c5 hs (planv hs F G).out F G (planv hs F G).free 0 w7 HN.out rfl (by omega) HPL.out HM7.out HI7.out HBD.out HPQ.out).mono ?_
            rintro e w8 ⟨rfl, hk8⟩
            have HK8 := Lib.hid (HK7.out.trans hk8)
            clear hk8
            go_wp2_with fail
            go_returns
            exact ⟨by simp, HK8.out⟩
    · -- some holders
      have hne : hs ≠ [] := fun e => hn0 (by rw [← HN.out, e]; rfl)
      obtain ⟨g0, o0, hA, _, _⟩ := HL.out hne
      subst hA
      have hok := good_ok HGD.out HBD.out
      have HOK := Lib.hid hok
      have HNW := Lib.hid (hs_news (w' := w2.alloc (.cells #[] 41)) HL.out (HK2.out.alloc _))
      have hn1 : 1 ≤ n := by omega
      clear hA0 hne hok
      go_wp2_with (at_builtin; refine wpList_append_own _ rfl _ _ 22 rfl w2.heap.size 41 i0 (.agg #[.int .i64 0, .int .i64 0]) 2 16 Try.underlying22 hi hz0 hz1 hz2 rfl (by decide) _ _ _ rfl HOWN.out ⟨g0, o0, none⟩ n c (hs.flatMap Hd.cells) rfl (by rw [hcells_length, HN.out]) HNW.out (h_oneCells hs) (by unfold maxLen; omega) (by omega) (by simp) ?_; intro v3 W3 hown3 hgrow3 _; have hown3' : W3.ownsRow w2.heap.size 41 2 v3 n (hs.flatMap Hd.cells) := (by simpa using hown3); obtain ⟨g, cap, rfl, _, _⟩ := hown3'.form hn1; have HT3 := Lib.hid (turn_start HK2.out HOWN.out HN.out HOK.out hown3' hgrow3); clear hown3 hgrow3 hown3')
      clear HOWN HNW
      obtain ⟨hcap, HT⟩ : n ≤ cap ∧ Hid (TurnAt w W3 g cap n hs hs) := ⟨HT3.out.2, Lib.hid HT3.out.1⟩
      clear HT3
      go_loopw [11] (fun v wr => ∃ (k : Nat) (ms : List Hd), v = .int .i64 k ∧ k ≤ m ∧ TurnAt w wr g cap n hs ms) (fun v _ => m - (intOf v).toNat)
      case atStart => exact ⟨0, hs, rfl, by omega, HT.out⟩
      case round =>
        clear HT
        obtain ⟨k, ms, rfl, hk, htn⟩ := hrel
        have HT := Lib.hid htn
        have hml : ms.length = n := by rw [htn.perm.length_eq, HN.out]
        have HML := Lib.hid hml
        by_cases hkm : k < m
        · obtain ⟨X, hX⟩ : ∃ X, sw.getD k 0 = X := ⟨_, rfl⟩
          have bX : -9223372036854775808 ≤ X ∧ X ≤ 9223372036854775807 := by
            have hl := HM.out
            refine HSB.out X ?_
            rw [← hX, List.getD_eq_getElem?_getD, List.getElem?_eq_getElem (by omega), Option.getD_some]
            exact List.getElem_mem _
          obtain ⟨bX1, bX2⟩ := bX
          obtain ⟨g1, o1, hA1, hg1, hc1⟩ := HS.out (by rintro rfl; have := HM.out; simp at this; omega)
          subst hA1
          have c1 := hc1 k (by have := HM.out; omega)
          rw [hX] at c1
          have d1 := kept_cell htn.kept c1
          obtain ⟨b, hbq, bb⟩ := pick_num X n (by omega)
          obtain ⟨a, ha⟩ : ∃ a, k % n = a := ⟨_, rfl⟩
          have ba : a < n := by rw [← ha]; exact Nat.mod_lt _ hn1
          have bb' : b < n := by omega
          have hrem : (k : Int).tmod (n : Int) = (a : Int) := by rw [Int.tmod_eq_emod_of_nonneg (by omega), ← ha]; rfl
          have hnz : ((n : Int) == 0) = false := by rw [beq_eq_false_iff_ne]; omega
          have hgt : decide ((0 : Int) < (n : Int)) = true := decide_eq_true (by omega)
          obtain ⟨x, hx⟩ : ∃ x, ms[a]? = some x := ⟨_, List.getElem?_eq_getElem (by omega)⟩
          obtain ⟨y, hy⟩ : ∃ y, ms[b]? = some y := ⟨_, List.getElem?_eq_getElem (by omega)⟩
          have HX := Lib.hid hx
          have HY := Lib.hid hy
          have HBQ := Lib.hid hbq
          have z1 : (0 : Int) ≤ (k : Int) := by omega
          have z2 : (k : Int) < (m : Int) := by omega
          clear hX hc1 c1 hbq ha hx hy htn hml
          go_wp2_with fail
          go_quiet ((go_at_call 23; exact quiet_l (pick_any _ _ _ (by omega) (by omega) (by assumption) (by assumption))))
          rw [HBQ.out]
          have HT1 := Lib.hid (HT.out.keep ((Only.refl (fun _ => False) wr).drewN nq))
          generalize (wr.drewN nq) = W at *
          obtain ⟨cs, q1, q2, q3⟩ := HT1.out.row
          obtain ⟨k1, k2⟩ := HT1.out.row.at_ HX.out
          obtain ⟨k3, k4⟩ := HT1.out.row.at_ HY.out
          have f1 := q1.frozen (a * 2)
          have f2 := q1.frozen (a * 2 + 1)
          have f3 := q1.frozen (b * 2)
          have f4 := q1.frozen (b * 2 + 1)
          have y0 : (0 : Int) ≤ (a : Int) := by omega
          have y1 : (a : Int) < (n : Int) := by omega
          have y2 : (0 : Int) ≤ (b : Int) := by omega
          have y3 : (b : Int) < (n : Int) := by omega
          have hgl := q1.lt
          obtain ⟨u0, k5⟩ : ∃ u, (W.setCell ⟨g, a * 2, none⟩ (.int .i64 y.id)).cell? ⟨g, b * 2, none⟩ = some u :=
            ⟨_, ((q1.set_ (a * 2) (.int .i64 y.id)).cell (b * 2)).trans (Array.getElem?_eq_getElem (by have := (Array.getElem?_eq_some_iff.1 ((q1.cell _).symm.trans k3)).1; simpa using this))⟩
          obtain ⟨u1, k6⟩ : ∃ u, ((W.setCell ⟨g, a * 2, none⟩ (.int .i64 y.id)).setCell ⟨g, a * 2 + 1, none⟩ (.int .i64 y.fr)).cell? ⟨g, b * 2 + 1, none⟩ = some u :=
            ⟨_, (((q1.set_ (a * 2) (.int .i64 y.id)).set_ (a * 2 + 1) (.int .i64 y.fr)).cell (b * 2 + 1)).trans (Array.getElem?_eq_getElem (by have := (Array.getElem?_eq_some_iff.1 ((q1.cell _).symm.trans k4)).1; simpa using this))⟩
          have HQ1 := Lib.hid q1
          have HQ2 := Lib.hid q2
          have HQ3 := Lib.hid q3
          clear q1 q2 q3 d1
          go_wp2_with fail
          go_roundw
          case rel =>
            have hgl2 := HT1.out.gl
            have hO := (((((Only.refl (fun q => q = g) W).setOf (o := a * 2) rfl (.int .i64 y.id)).setOf (o := a * 2 + 1) rfl (.int .i64 y.fr)).setOf (o := b * 2) rfl (.int .i64 x.id)).setOf (o := b * 2 + 1) rfl (.int .i64 x.fr)).alloc (.cells #[.int .i64 x.id, .int .i64 x.fr] 41)
            exact ⟨k + 1, swp ms a b, by go_num, by omega, row_swapped HQ1.out HQ2.out HQ3.out HX.out HY.out (((((HQ1.out.set_ _ _).set_ _ _).set_ _ _).set_ _ _).alloc _), (swp_perm ms a b).trans HT1.out.perm, HT1.out.kept.trans' hO (fun q hq e => by omega), HT1.out.gl⟩
          case measure => simp [intOf]; omega
        · have HMS := Lib.hid (hs_of_row htn.row)
          have HMB := Lib.hid (fun x hx => HBD.out x (htn.perm.mem_iff.1 hx))
          have HK3 := Lib.hid htn.kept
          have HEP := Lib.hid ((planv_turned HGD.out HBD.out htn.perm.symm F G).symm.trans HPQ.out)
          have HEV := Lib.hid (victimv_turned HGD.out HBD.out htn.perm.symm).symm
          clear htn hml
          have hgt : decide ((0 : Int) < (n : Int)) = true := decide_eq_true (by omega)
          go_wp2_with fail
          refine (plan_calls (some ⟨g0, o0, none⟩) n c hs F G wr HN.out (by omega) (HL.out.kept HK3.out) HBD.out).mono ?_
          rintro e w5 ⟨A5, c5, rfl, ho5, hk5⟩
          have HI5 := Lib.hid (ints_of_own ho5)
          have HK5 := Lib.hid (HK3.out.trans hk5)
          have HM5 := Lib.hid (HMS.out.kept hk5)
          clear ho5 hk5
          rw [HPE.out]
          go_wp2_with fail
          refine (victim_calls (some ⟨g0, o0, none⟩) n c hs w5 HN.out (by omega) (HL.out.kept HK5.out) HBD.out).mono ?_
          rintro e w6 ⟨rfl, hk6⟩
          have HK6 := Lib.hid (HK5.out.trans hk6)
          have HI6 := Lib.hid (HI5.out.kept hk6)
          have HM6 := Lib.hid (HM5.out.kept hk6)
          clear hk6
          go_wp2_with fail
          refine (victim_calls (some ⟨g, 0, none⟩) n cap ms w6 HML.out (by omega) HM6.out HMB.out).mono ?_
          rw [HEV.out]
          rintro e w7 ⟨rfl, hk7⟩
          have HK7 := Lib.hid (HK6.out.trans hk7)
          have HI7 := Lib.hid (HI6.out.kept hk7)
          have HM7 := Lib.hid (HM6.out.kept hk7)
          clear hk7
          go_wp2_with fail
          refine (plans_true (some ⟨g, 0, none⟩) A5 n cap _ c5 ms (planv hs F G).out F G (planv hs F G).free 0 w7 HML.out rfl (by omega) HPL.out HM7.out HI7.out HMB.out HEP.out).mono ?_
          rintro e w8 ⟨rfl, hk8⟩
          have HK8 := Lib.hid (HK7.out.trans hk8)
          clear hk8
          go_wp2_with fail
          go_returns
          exact ⟨by simp, HK8.out⟩
  · rw [chk_bad hg]
    rintro e w2 ⟨rfl, hk2⟩
    have HK2 := Lib.hid (HK1.out.trans hk2)
    clear hk2 hg
    go_wp2_with fail
    go_returns
    exact ⟨rfl, HK2.out⟩
end Go.Proofs.Ytflljldmcidhgaa
