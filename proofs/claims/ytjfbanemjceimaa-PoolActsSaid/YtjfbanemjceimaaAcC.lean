/- PoolActs: the walk of the law. -/
import Derived.Test.YtjfbanemjceimaaAcA
import Derived.Test.YtjfbanemjceimaaAcM
import Derived.Test.YtjfbanemjceimaaAcL
namespace Go.Proofs.Ytjfbanemjceimaa
open Go.RowKit Go.Maps
set_option linter.unusedVariables false
set_option linter.unusedSimpArgs false
set_option linter.unnecessarySimpa false

theorem acted_ok {w W0 : World} {p q lb N Q T lo hi lo2 hi2 : Nat} {fs rs : List Fr} (a b c d : Int) (h : ActSt w W0 p q lb N Q T lo hi lo2 hi2 fs rs) (hd : In64 d) (hT : T + 64 ≤ 900000) :
    Acted w W0 p q lb N Q T lo hi lo2 hi2 a b c d := by
  by_cases hx : a < 0 ∨ 5 < a
  · exact acted_x a b c d h hT hx
  · obtain rfl | rfl | rfl | rfl | rfl | rfl : a = 0 ∨ a = 1 ∨ a = 2 ∨ a = 3 ∨ a = 4 ∨ a = 5 := by omega
    · exact acted_0 b c d h hT
    · exact acted_1 b c d h hT
    · exact acted_2 b c d h hT
    · exact acted_3 b c d h hd.1 hd.2 hT
    · exact acted_4 b c d h hT
    · exact acted_5 b c d h hT

theorem act_start {w w1 w2 w3 : World} {p q lb N Q : Nat} (hk : Kept w w1) (hk2 : Kept w1 w2) (hk3 : Kept w2 w3) (hp : Pool w2 p N Q 0 w1.heap.size w2.heap.size (List.replicate N ⟨0, 0, none⟩))
    (hr : RP w3 q lb N Q 0 w2.heap.size w3.heap.size (List.replicate N ⟨0, 0, none⟩)) :
    ActSt w w3 p q lb N Q 0 w1.heap.size w2.heap.size w2.heap.size w3.heap.size (List.replicate N ⟨0, 0, none⟩) (List.replicate N ⟨0, 0, none⟩) := by
  have hz : ∀ (i : Nat) (x : Fr), (List.replicate N (⟨0, 0, none⟩ : Fr))[i]? = some x → x = ⟨0, 0, none⟩ := by
    intro i x hx
    rw [List.getElem?_replicate] at hx
    split at hx
    · cases hx; rfl
    · cases hx
  exact
    { pool := hp.kept hk3
      ref := hr
      al := rfl
      lo0 := hk.size
      hl := Nat.le_refl _
      kept := (hk.trans hk2).trans hk3
      m1 := fun i m x cs hx he => by obtain rfl := hz i x hx; cases he
      m12 := fun i j m x y cs cs' hx _ he _ => by obtain rfl := hz i x hx; cases he
      bts := fun i x hx => by obtain rfl := hz i x hx; exact Z0_bts }

set_option maxRecDepth 100000 in
set_option maxHeartbeats 8000000 in
theorem acts_calls (x0 y0 : Int) (A : Option Addr) (acts : List Ac) (n cA : Nat) (w : World) (hn : acts.length = n) (hnm : n ≤ 9223372036854775807) (hA : Acts w A acts) (hin : ∀ a ∈ acts, a.In) :
    Calls Try.prog 7 #[.int .i64 x0, .int .i64 y0, .slice A n cA] w fun e w' => e = .returned (.bool true) ∧ Kept w w' := by
  have HA := Lib.hid hA
  have HI := Lib.hid hin
  have HN := Lib.hid hn
  have HAW := Lib.hid (pawake_ok w)
  clear hA hin hn
  by_cases h80 : 80 < n ∨ (12 < x0 ∧ x0 ≤ 64)
  · have hb : (80 < n) ∨ (¬ 80 < n ∧ 12 < x0 ∧ x0 ≤ 64) := by omega
    clear h80
    rcases hb with hb | ⟨hb1, hb2, hb3⟩
    all_goals
      go_enter Try.func7, Try.ntmps7
      go_wp2_with fail
      refine HAW.out.mono ?_
      rintro e w1 ⟨rfl, hk1⟩
      have HK1 := Lib.hid hk1
      clear hk1
      go_wp2_with fail
      go_returns
      exact ⟨rfl, HK1.out⟩
  have h81 : n ≤ 80 := by omega
  by_cases hbad : x0 < 1 ∨ 64 < x0 ∨ y0 < 1 ∨ x0 < y0
  · have hx12 : x0 ≤ 12 ∨ (12 < x0 ∧ 64 < x0) := by omega
    clear h80
    have HBAD := Lib.hid hbad
    clear hbad
    rcases hx12 with hx12 | ⟨hx12, hx64⟩
    all_goals
      go_enter Try.func7, Try.ntmps7
      go_wp2_with fail
      go_loopw [7] (fun v wr => ∃ k : Nat, v = .int .i64 k ∧ k ≤ n ∧ w = wr) (fun v _ => n - (intOf v).toNat)
      case atStart => exact ⟨0, rfl, by omega, rfl⟩
      case round =>
        obtain ⟨k, rfl, hk, rfl⟩ := hrel
        by_cases hkn : k < n
        · obtain ⟨a, ha⟩ : ∃ a, acts[k]? = some a := ⟨_, List.getElem?_eq_getElem (by have := HN.out; omega)⟩
          obtain ⟨g1, o1, rfl, hg1, hc1⟩ := HA.out (by rintro rfl; simp at ha)
          obtain ⟨a0, a1, a2, a3⟩ := hc1 k a ha
          obtain ⟨ak, af, ao, an⟩ := a
          simp only [] at a0 a1 a2 a3
          have z1 : (0 : Int) ≤ (k : Int) := by omega
          have z2 : (k : Int) < (n : Int) := by omega
          clear hc1 ha
          by_cases hbig : 400 < an
          · by_cases hsm : an ≤ 152064
            · go_wp2_with fail
              refine HAW.out.mono ?_
              rintro e w1 ⟨rfl, hk1⟩
              have HK1 := Lib.hid hk1
              clear hk1
              go_wp2_with fail
              go_returns
              exact ⟨rfl, HK1.out⟩
            · go_wp2_with fail
              go_roundw
              case rel => exact ⟨k + 1, by go_num, by omega, by trivial⟩
              case measure => simp [intOf]; omega
          · go_wp2_with fail
            go_roundw
            case rel => exact ⟨k + 1, by go_num, by omega, by trivial⟩
            case measure => simp [intOf]; omega
        · go_wp2_with fail
          refine (pnew_no x0 y0 _ HBAD.out).mono ?_
          rintro e w1 ⟨rfl, rfl⟩
          go_wp2_with fail
          refine (rnew_no x0 y0 _ HBAD.out).mono ?_
          rintro e w1 ⟨rfl, rfl⟩
          go_wp2_with fail
          obtain ⟨wo, hwo⟩ : ∃ wo : World, wo = w := ⟨_, rfl⟩
          go_loopw [12] (fun v wr => v = .int .i64 0 ∧ w = wr) (fun v _ => 0)
          case atStart => exact ⟨rfl, rfl⟩
          case round =>
            obtain ⟨rfl, rfl⟩ := hrel
            go_wp2_with fail
            refine HAW.out.mono ?_
            rintro e w1 ⟨rfl, hk1⟩
            have HK1 := Lib.hid hk1
            clear hk1
            go_wp2_with fail
            go_returns
            exact ⟨rfl, HK1.out⟩

  · have hx12 : x0 ≤ 12 := by omega
    clear h80
    go_enter Try.func7, Try.ntmps7
    go_wp2_with fail
    go_loopw [7] (fun v wr => ∃ k : Nat, v = .int .i64 k ∧ k ≤ n ∧ w = wr) (fun v _ => n - (intOf v).toNat)
    case atStart => exact ⟨0, rfl, by omega, rfl⟩
    case round =>
      obtain ⟨k, rfl, hk, rfl⟩ := hrel
      by_cases hkn : k < n
      · obtain ⟨a, ha⟩ : ∃ a, acts[k]? = some a := ⟨_, List.getElem?_eq_getElem (by have := HN.out; omega)⟩
        obtain ⟨g1, o1, rfl, hg1, hc1⟩ := HA.out (by rintro rfl; simp at ha)
        obtain ⟨a0, a1, a2, a3⟩ := hc1 k a ha
        obtain ⟨ak, af, ao, an⟩ := a
        simp only [] at a0 a1 a2 a3
        have z1 : (0 : Int) ≤ (k : Int) := by omega
        have z2 : (k : Int) < (n : Int) := by omega
        clear hc1 ha
        by_cases hbig : 400 < an
        · by_cases hsm : an ≤ 152064
          · go_wp2_with fail
            refine HAW.out.mono ?_
            rintro e w1 ⟨rfl, hk1⟩
            have HK1 := Lib.hid hk1
            clear hk1
            go_wp2_with fail
            go_returns
            exact ⟨rfl, HK1.out⟩
          · go_wp2_with fail
            go_roundw
            case rel => exact ⟨k + 1, by go_num, by omega, by trivial⟩
            case measure => simp [intOf]; omega
        · go_wp2_with fail
          go_roundw
          case rel => exact ⟨k + 1, by go_num, by omega, by trivial⟩
          case measure => simp [intOf]; omega
      · go_wp2_with fail
        obtain ⟨N, rfl⟩ := Int.eq_ofNat_of_zero_le (show (0 : Int) ≤ x0 by omega)
        obtain ⟨Q, rfl⟩ := Int.eq_ofNat_of_zero_le (show (0 : Int) ≤ y0 by omega)
        refine (pnew_ok N Q w (by omega) (by omega) (by omega) (by omega)).mono ?_
        rintro e w2 ⟨p, fb, ib, cap, mb, fbs, l, rfl, hk2, hpl⟩
        have HK2 := Lib.hid hk2
        have HPL := Lib.hid (show Pool w2 p N Q 0 w.heap.size w2.heap.size (List.replicate N ⟨0, 0, none⟩) from ⟨fb, ib, cap, mb, fbs, l, _, hpl⟩)
        clear hk2 hpl
        go_wp2_with fail
        refine (rnew_ok N Q w2 (by omega) (by omega) (by omega) (by omega)).mono ?_
        rintro e w3 ⟨q, lb, rfl, hk3, hr3⟩
        have hst := act_start (Only.refl (fun _ => False) w) HK2.out hk3 HPL.out hr3
        generalize w.heap.size = lo at hst
        generalize w2.heap.size = hi at hst
        generalize w3.heap.size = hi2 at hst
        have HST := Lib.hid hst
        clear hst hk3 hr3
        go_wp2_with fail
        go_loopw [12] (fun v wr => ∃ (k : Nat) (fs rs : List Fr), v = .int .i64 k ∧ k ≤ n ∧ ActSt w wr p q lb N Q (64 * k) lo hi hi hi2 fs rs) (fun v _ => n - (intOf v).toNat)
        case atStart => exact ⟨0, _, _, rfl, by omega, HST.out⟩
        case round =>
          clear HST
          obtain ⟨k, fs, rs, rfl, hk, hst⟩ := hrel
          have HS := Lib.hid hst
          by_cases hkn : k < n
          · obtain ⟨a, ha⟩ : ∃ a, acts[k]? = some a := ⟨_, List.getElem?_eq_getElem (by have := HN.out; omega)⟩
            obtain ⟨g1, o1, rfl, hg1, hc1⟩ := HA.out (by rintro rfl; simp at ha)
            obtain ⟨a0, a1, a2, a3⟩ := hc1 k a ha
            obtain ⟨hi0, hi1, ⟨hi21, hi22⟩, hi3⟩ := HI.out a (List.mem_iff_getElem?.2 ⟨k, ha⟩)
            obtain ⟨ak, af, ao, an⟩ := a
            simp only [] at a0 a1 a2 a3 hi21 hi22 hi3
            have d0 := kept_cell hst.kept a0
            have d1 := kept_cell hst.kept a1
            have d2 := kept_cell hst.kept a2
            have d3 := kept_cell hst.kept a3
            have A0 := Lib.hid a0
            have A1 := Lib.hid a1
            have A2 := Lib.hid a2
            have A3 := Lib.hid a3
            have z1 : (0 : Int) ≤ (k : Int) := by omega
            have z2 : (k : Int) < (n : Int) := by omega
            have HAC := Lib.hid (show Acted w wr p q lb N Q (64 * k) lo hi hi hi2 ak af ao an from acted_ok ak af ao an hst hi3 (by omega))
            clear hst hc1 ha a0 a1 a2 a3 hi0 hi1 hi3
            go_wp2_with fail
            refine Calls.mono HAC.out ?_
            rintro e w4 ⟨rfl, fs', rs', hst4⟩
            replace d0 := kept_cell hst4.kept A0.out
            replace d1 := kept_cell hst4.kept A1.out
            replace d2 := kept_cell hst4.kept A2.out
            replace d3 := kept_cell hst4.kept A3.out
            have HAL := Lib.hid (alike_ok ao hst4 hi21 hi22)
            have HS4 := Lib.hid hst4
            clear hst4
            go_wp2_with fail
            refine HAL.out.mono ?_
            rintro e w5 ⟨rfl, hk5⟩
            have HK5 := Lib.hid hk5
            clear hk5
            go_wp2_with fail
            go_roundw
            case rel => exact ⟨k + 1, fs', rs', by go_num, by omega, by rw [show 64 * (k + 1) = 64 * k + 64 by omega]; exact HS4.out.keep HK5.out⟩
            case measure => simp [intOf]; omega
          · clear hst
            go_wp2_with fail
            refine (pawake_ok wr).mono ?_
            rintro e w4 ⟨rfl, hk4⟩
            have HK4 := Lib.hid hk4
            clear hk4
            go_wp2_with fail
            go_returns
            exact ⟨rfl, HS.out.kept.trans HK4.out⟩
end Go.Proofs.Ytjfbanemjceimaa
