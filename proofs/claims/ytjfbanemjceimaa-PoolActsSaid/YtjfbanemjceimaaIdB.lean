/- container/heap's down and up over the free frames. -/
import Derived.Test.YtjfbanemjceimaaIdM
namespace Go.Proofs.Ytjfbanemjceimaa
open Go.RowKit
set_option linter.unusedVariables false
set_option linter.unusedSimpArgs false
set_option linter.unnecessarySimpa false

/-- The numbers l stand at the front of block ib. -/
def Row (w : World) (ib cap : Nat) (l : List Nat) : Prop := ∃ cs, Blk w ib 3 cs ∧ cs.size = cap ∧ ∀ (k x : Nat), l[k]? = some x → cs[k]? = some (Value.int .i64 (x : Int))

def nk (x : Nat) : Int := (x : Int)

theorem Row.keep {w w' : World} {ib cap : Nat} {l : List Nat} {S : Nat → Prop} (h : Row w ib cap l) (ho : Only S w w') (hn : ¬ S ib) : Row w' ib cap l := by
  obtain ⟨cs, h1, h2, h3⟩ := h
  exact ⟨cs, ho.blk h1 hn, h2, h3⟩
theorem Row.drewN {w : World} {ib cap : Nat} {l : List Nat} (h : Row w ib cap l) (q : Nat) : Row (w.drewN q) ib cap l := h

theorem Row.less {w : World} {ib cap : Nat} {l : List Nat} (h : Row w ib cap l) {i j x y L : Nat} (hL : l.length = L) (hx : l[i]? = some x) (hy : l[j]? = some y) :
    Calls Try.prog 66 #[.slice (some ⟨ib, 0, none⟩) L cap, .int .i64 i, .int .i64 j] w fun e w' => e = .returned (.bool (decide ((x : Int) < (y : Int)))) ∧ Row w' ib cap l ∧ Kept w w' := by
  obtain ⟨cs, h1, h2, h3⟩ := h
  have hr : Row w ib cap l := ⟨cs, h1, h2, h3⟩
  refine Calls.mono (iless_ok ib L cap i j x y w cs h1 (by have := (List.getElem?_eq_some_iff.1 hx).1; omega) (by have := (List.getElem?_eq_some_iff.1 hy).1; omega) (h3 i x hx) (h3 j y hy)) ?_
  rintro e w' ⟨he, q, rfl⟩
  exact ⟨he, hr, ⟨rfl, rfl, rfl, Nat.le_refl _, fun _ _ _ => rfl⟩⟩

theorem Row.swap {w : World} {ib cap : Nat} {l : List Nat} (h : Row w ib cap l) {i j L : Nat} (hL : l.length = L) (hi : i < L) (hj : j < L) :
    Calls Try.prog 67 #[.slice (some ⟨ib, 0, none⟩) L cap, .int .i64 i, .int .i64 j] w fun e w' => (∃ v, e = .returned v) ∧ Row w' ib cap (swp l i j) ∧ Only (fun k => k = ib) w w' := by
  obtain ⟨cs, h1, h2, h3⟩ := h
  subst hL
  obtain ⟨x, hx⟩ : ∃ x, l[i]? = some x := ⟨_, List.getElem?_eq_getElem hi⟩
  obtain ⟨y, hy⟩ : ∃ y, l[j]? = some y := ⟨_, List.getElem?_eq_getElem hj⟩
  have hx' := h3 i x hx
  have hy' := h3 j y hy
  have bi := (Array.getElem?_eq_some_iff.1 hx').1
  have bj := (Array.getElem?_eq_some_iff.1 hy').1
  refine (iswap_ok ib l.length cap i j x y w cs h1 hi hj hx' hy').mono ?_
  rintro e w' ⟨he, hb, ho⟩
  refine ⟨he, ⟨_, hb, by simpa using h2, fun k z hz => ?_⟩, ho⟩
  rw [swp_get l hi hj] at hz
  by_cases e1 : k = j
  · subst e1
    rw [if_pos rfl, hx] at hz
    cases hz
    simp [bj]
  · by_cases e2 : k = i
    · subst e2
      rw [if_neg e1, if_pos rfl, hy] at hz
      cases hz
      rw [Array.getElem?_setIfInBounds_ne (fun e => e1 e.symm)]
      simp [bi]
    · rw [if_neg e1, if_neg e2] at hz
      rw [Array.getElem?_setIfInBounds_ne (fun e => e1 e.symm), Array.getElem?_setIfInBounds_ne (fun e => e2 e.symm)]
      exact h3 k z hz

set_option maxHeartbeats 4000000 in
theorem down_calls (p ib cap n L : Nat) (l : List Nat) (w : World) (hp : w.cell? ⟨p, 1, none⟩ = some (.slice (some ⟨ib, 0, none⟩) L cap)) (hpi : p ≠ ib) (hr : Row w ib cap l) (hL : l.length = L) (hn : n ≤ L) (hb : L ≤ 1000)
    (hd : DownF (kk nk l) n 0) :
    Calls Try.prog 44 #[.iface 62 (.pointer (some ⟨p, 1, none⟩)), .int .i64 0, .int .i64 n] w fun e w' => (∃ v, e = .returned v) ∧ ∃ l', Row w' ib cap l' ∧ l'.Perm l ∧ (∀ k, n ≤ k → l'[k]? = l[k]?) ∧ HeapF (kk nk l') n ∧ Only (fun k => k = ib) w w' := by
  have HR := Lib.hid hr
  have HL := Lib.hid hL
  have HD := Lib.hid hd
  clear hr hL hd
  go_enter Try.func44, Try.ntmps44
  go_wp2_with fail
  go_loopw [7, 8, 9, 10] (fun v _ _ _ wr => ∃ (i : Nat) (l1 : List Nat), v = .int .i64 i ∧ i ≤ n ∧ Row wr ib cap l1 ∧ l1.Perm l ∧ (∀ k, n ≤ k → l1[k]? = l[k]?) ∧ DownF (kk nk l1) n i ∧ Only (fun k => k = ib) w wr) (fun v _ _ _ _ => n - (intOf v).toNat)
  case atStart => exact ⟨0, l, rfl, by omega, HR.out, List.Perm.refl _, fun _ _ => rfl, HD.out, Only.refl _ _⟩
  case round =>
    obtain ⟨i, l1, rfl, hi, hr, hpm, hk, hd, ho⟩ := hrel
    have H1 := Lib.hid hr
    have H2 := Lib.hid hpm
    have H3 := Lib.hid hk
    have H4 := Lib.hid hd
    have H5 := Lib.hid ho
    have hl1 : Hid (l1.length = L) := Lib.hid (by rw [hpm.length_eq, HL.out])
    have hc := only_cell ho hp hpi
    clear hr hpm hk hd ho
    by_cases hj : 2 * i + 1 < n
    · obtain ⟨x, hx⟩ : ∃ x, l1[i]? = some x := ⟨_, List.getElem?_eq_getElem (by rw [hl1.out]; omega)⟩
      obtain ⟨y, hy⟩ : ∃ y, l1[2 * i + 1]? = some y := ⟨_, List.getElem?_eq_getElem (by rw [hl1.out]; omega)⟩
      have HX := Lib.hid hx
      have HY := Lib.hid hy
      clear hx hy
      by_cases hj2 : 2 * i + 2 < n
      · obtain ⟨z, hz⟩ : ∃ z, l1[2 * i + 2]? = some z := ⟨_, List.getElem?_eq_getElem (by rw [hl1.out]; omega)⟩
        have HZ := Lib.hid hz
        clear hz
        have hm := m_less p 1 wr _ hc
        go_wp2_with fail
        refine (H1.out.less (x := z) (y := y) hl1.out HZ.out HY.out).mono ?_
        rintro e w2 ⟨rfl, hr2, hk2⟩
        have hc2 := kept_cell hk2 hc
        have HR2 := Lib.hid hr2
        have HK2 := Lib.hid (H5.out.trans (Only.mono (S' := fun k => k = ib) hk2 (fun _ _ f => f.elim)))
        clear hr2 hk2
        by_cases hzy : z < y
        · have hdz : decide ((z : Int) < (y : Int)) = true := decide_eq_true (by omega)
          have hm2 := m_less p 1 w2 _ hc2
          go_wp2_with fail
          refine (HR2.out.less (i := 2 * i + 2) (j := i) (x := z) (y := x) hl1.out HZ.out HX.out).mono ?_
          rintro e w3 ⟨rfl, hr3, hk3⟩
          have hc3 := kept_cell hk3 hc2
          have HR3 := Lib.hid hr3
          have HK3 := Lib.hid (HK2.out.trans (Only.mono (S' := fun k => k = ib) hk3 (fun _ _ f => f.elim)))
          clear hr3 hk3
          by_cases hlt : z < x
          · have hdt : decide ((z : Int) < (x : Int)) = true := decide_eq_true (by omega)
            have hm3 := m_swap p 1 w3 _ hc3
            go_wp2_with fail
            refine (HR3.out.swap (i := i) (j := 2 * i + 2) hl1.out (by omega) (by omega)).mono ?_
            rintro e w4 ⟨⟨v4, rfl⟩, hr4, ho4⟩
            have H6 := Lib.hid hr4
            have H7 := Lib.hid ho4
            clear hr4 ho4
            go_wp2_with fail
            go_roundw
            case rel =>
              refine ⟨2 * i + 2, swp l1 i (2 * i + 2), by go_num, by omega, H6.out, (swp_perm l1 i (2 * i + 2)).trans H2.out, fun k hk => ?_, ?_, (HK3.out.trans H7.out)⟩
              · rw [swp_get l1 (by rw [hl1.out]; omega) (by rw [hl1.out]; omega), if_neg (by omega), if_neg (by omega)]
                exact H3.out k hk
              · rw [kk_swp nk l1 (by rw [hl1.out]; omega) (by rw [hl1.out]; omega)]
                refine down_step H4.out (by omega) (by omega) ?_ (by rw [kk_at nk HZ.out, kk_at nk HX.out]; unfold nk; omega)
                intro k hk hkk
                rcases hkk with rfl | rfl
                · rw [kk_at nk HZ.out, kk_at nk HY.out]; unfold nk; omega
                · exact Int.le_refl _
            case measure => simp [intOf]; omega
          · have hdf : decide ((z : Int) < (x : Int)) = false := decide_eq_false (by omega)
            go_wp2_with fail
            go_ret
            refine ⟨⟨_, rfl⟩, l1, HR3.out, H2.out, H3.out, ?_, HK3.out⟩
            refine down_end H4.out ?_
            intro k hk hkk
            have hxj : kk nk l1 i ≤ kk nk l1 (2 * i + 2) := by rw [kk_at nk HZ.out, kk_at nk HX.out]; unfold nk; omega
            refine Int.le_trans hxj ?_
            rcases hkk with rfl | rfl
            · rw [kk_at nk HZ.out, kk_at nk HY.out]; unfold nk; omega
            · exact Int.le_refl _
        · have hdz : decide ((z : Int) < (y : Int)) = false := decide_eq_false (by omega)
          have hm2 := m_less p 1 w2 _ hc2
          go_wp2_with fail
          refine (HR2.out.less (i := 2 * i + 1) (j := i) (x := y) (y := x) hl1.out HY.out HX.out).mono ?_
          rintro e w3 ⟨rfl, hr3, hk3⟩
          have hc3 := kept_cell hk3 hc2
          have HR3 := Lib.hid hr3
          have HK3 := Lib.hid (HK2.out.trans (Only.mono (S' := fun k => k = ib) hk3 (fun _ _ f => f.elim)))
          clear hr3 hk3
          by_cases hlt : y < x
          · have hdt : decide ((y : Int) < (x : Int)) = true := decide_eq_true (by omega)
            have hm3 := m_swap p 1 w3 _ hc3
            go_wp2_with fail
            refine (HR3.out.swap (i := i) (j := 2 * i + 1) hl1.out (by omega) (by omega)).mono ?_
            rintro e w4 ⟨⟨v4, rfl⟩, hr4, ho4⟩
            have H6 := Lib.hid hr4
            have H7 := Lib.hid ho4
            clear hr4 ho4
            go_wp2_with fail
            go_roundw
            case rel =>
              refine ⟨2 * i + 1, swp l1 i (2 * i + 1), by go_num, by omega, H6.out, (swp_perm l1 i (2 * i + 1)).trans H2.out, fun k hk => ?_, ?_, (HK3.out.trans H7.out)⟩
              · rw [swp_get l1 (by rw [hl1.out]; omega) (by rw [hl1.out]; omega), if_neg (by omega), if_neg (by omega)]
                exact H3.out k hk
              · rw [kk_swp nk l1 (by rw [hl1.out]; omega) (by rw [hl1.out]; omega)]
                refine down_step H4.out (by omega) (by omega) ?_ (by rw [kk_at nk HY.out, kk_at nk HX.out]; unfold nk; omega)
                intro k hk hkk
                rcases hkk with rfl | rfl
                · exact Int.le_refl _
                · rw [kk_at nk HZ.out, kk_at nk HY.out]; unfold nk; omega
            case measure => simp [intOf]; omega
          · have hdf : decide ((y : Int) < (x : Int)) = false := decide_eq_false (by omega)
            go_wp2_with fail
            go_ret
            refine ⟨⟨_, rfl⟩, l1, HR3.out, H2.out, H3.out, ?_, HK3.out⟩
            refine down_end H4.out ?_
            intro k hk hkk
            have hxj : kk nk l1 i ≤ kk nk l1 (2 * i + 1) := by rw [kk_at nk HY.out, kk_at nk HX.out]; unfold nk; omega
            refine Int.le_trans hxj ?_
            rcases hkk with rfl | rfl
            · exact Int.le_refl _
            · rw [kk_at nk HZ.out, kk_at nk HY.out]; unfold nk; omega
      · 
        have hm2 := m_less p 1 wr _ hc
        go_wp2_with fail
        refine (H1.out.less (i := 2 * i + 1) (j := i) (x := y) (y := x) hl1.out HY.out HX.out).mono ?_
        rintro e w3 ⟨rfl, hr3, hk3⟩
        have hc3 := kept_cell hk3 hc
        have HR3 := Lib.hid hr3
        have HK3 := Lib.hid (H5.out.trans (Only.mono (S' := fun k => k = ib) hk3 (fun _ _ f => f.elim)))
        clear hr3 hk3
        by_cases hlt : y < x
        · have hdt : decide ((y : Int) < (x : Int)) = true := decide_eq_true (by omega)
          have hm3 := m_swap p 1 w3 _ hc3
          go_wp2_with fail
          refine (HR3.out.swap (i := i) (j := 2 * i + 1) hl1.out (by omega) (by omega)).mono ?_
          rintro e w4 ⟨⟨v4, rfl⟩, hr4, ho4⟩
          have H6 := Lib.hid hr4
          have H7 := Lib.hid ho4
          clear hr4 ho4
          go_wp2_with fail
          go_roundw
          case rel =>
            refine ⟨2 * i + 1, swp l1 i (2 * i + 1), by go_num, by omega, H6.out, (swp_perm l1 i (2 * i + 1)).trans H2.out, fun k hk => ?_, ?_, (HK3.out.trans H7.out)⟩
            · rw [swp_get l1 (by rw [hl1.out]; omega) (by rw [hl1.out]; omega), if_neg (by omega), if_neg (by omega)]
              exact H3.out k hk
            · rw [kk_swp nk l1 (by rw [hl1.out]; omega) (by rw [hl1.out]; omega)]
              refine down_step H4.out (by omega) (by omega) ?_ (by rw [kk_at nk HY.out, kk_at nk HX.out]; unfold nk; omega)
              intro k hk hkk
              rcases hkk with rfl | rfl
              · exact Int.le_refl _
              · omega
          case measure => simp [intOf]; omega
        · have hdf : decide ((y : Int) < (x : Int)) = false := decide_eq_false (by omega)
          go_wp2_with fail
          go_ret
          refine ⟨⟨_, rfl⟩, l1, HR3.out, H2.out, H3.out, ?_, HK3.out⟩
          refine down_end H4.out ?_
          intro k hk hkk
          have hxj : kk nk l1 i ≤ kk nk l1 (2 * i + 1) := by rw [kk_at nk HY.out, kk_at nk HX.out]; unfold nk; omega
          refine Int.le_trans hxj ?_
          rcases hkk with rfl | rfl
          · exact Int.le_refl _
          · omega
    · go_wp2_with fail
      go_ret
      exact ⟨⟨_, rfl⟩, l1, H1.out, H2.out, H3.out, down_end H4.out (fun k hk hkk => by omega), H5.out⟩
end Go.Proofs.Ytjfbanemjceimaa
