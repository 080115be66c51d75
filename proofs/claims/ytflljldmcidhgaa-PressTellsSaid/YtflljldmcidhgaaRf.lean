/- The document's answer: Check, first, Victim, Held. -/
import Derived.Test.YtflljldmcidhgaaTu
namespace Go.Proofs.Ytflljldmcidhgaa
open Go.RowKit
set_option linter.unusedVariables false
set_option linter.unusedSimpArgs false
set_option linter.unnecessarySimpa false

set_option maxRecDepth 100000 in
set_option maxHeartbeats 4000000 in
theorem rcheck_calls (A : Option Addr) (n c : Nat) (hs : List Hd) (w : World) (hn : hs.length = n) (hb : n ≤ 9223372036854775807) (hL : Hs w A hs) :
    Calls Try.prog 15 #[.slice A n c] w fun e w' => e = .returned (.int .i64 (chk hs)) ∧ Kept w w' := by
  have HN := Lib.hid hn
  have HL := Lib.hid hL
  clear hn hL
  by_cases h64 : 64 < n
  · go_enter Try.func15, Try.ntmps15
    go_wp2_with fail
    go_ret
    have e : chk hs = 2 := chk_bad (fun hg => by have := hg.1; rw [HN.out] at this; omega)
    exact ⟨by (rw [e]) <;> rfl, Only.refl _ _⟩
  go_enter Try.func15, Try.ntmps15
  go_wp2_with fail
  go_loopw [3] (fun v wr => ∃ k : Nat, v = .int .i64 k ∧ k ≤ n ∧ Pfx hs k ∧ Kept w wr) (fun v _ => n - (intOf v).toNat)
  case atStart => exact ⟨0, rfl, by omega, fun i x h => absurd h (Nat.not_lt_zero i), Only.refl _ _⟩
  case round =>
    obtain ⟨k, rfl, hk, hp, hkp⟩ := hrel
    have HP := Lib.hid hp
    have HK := Lib.hid hkp
    by_cases hlt : k < n
    · obtain ⟨x, hx⟩ : ∃ x, hs[k]? = some x := ⟨_, List.getElem?_eq_getElem (by rw [HN.out]; exact hlt)⟩
      obtain ⟨g, o, hA, hg, hc⟩ := HL.out (by rintro rfl; simp at hx)
      subst hA
      obtain ⟨c1, c2⟩ := hc k x hx
      have d1 := kept_cell hkp c1
      have d2 := kept_cell hkp c2
      have HX := Lib.hid hx
      have HC := Lib.hid hc
      clear hp hkp hx hc c1 c2
      by_cases b1 : x.id < 1
      · go_wp2_with fail
        go_ret
        have e := pfx_bad HX.out (fun h => by have := h.1.1; omega)
        exact ⟨by (rw [e]) <;> rfl, HK.out⟩
      by_cases b2 : x.fr < 0
      · go_wp2_with fail
        go_ret
        have e := pfx_bad HX.out (fun h => by have := h.1.2.1; omega)
        exact ⟨by (rw [e]) <;> rfl, HK.out⟩
      by_cases b3 : 64 < x.fr
      · go_wp2_with fail
        go_ret
        have e := pfx_bad HX.out (fun h => by have := h.1.2.2; omega)
        exact ⟨by (rw [e]) <;> rfl, HK.out⟩
      go_wp2_with fail
      obtain ⟨wo, rfl⟩ : ∃ wo : World, wo = wr := ⟨_, rfl⟩
      go_loopw [4] (fun v wr => ∃ (j q : Nat), v = .int .i64 j ∧ j ≤ k ∧ x.id ∉ (hs.take j).map Hd.id ∧ wr = wo.drewN q) (fun v _ => k - (intOf v).toNat)
      case atStart => exact ⟨0, 0, rfl, by omega, by simp, rfl⟩
      case round =>
        obtain ⟨j, q, rfl, hj, hno, hw⟩ := hrel
        subst hw
        have HNO := Lib.hid hno
        clear hno
        by_cases hjk : j < k
        · obtain ⟨y, hy⟩ : ∃ y, hs[j]? = some y := ⟨_, List.getElem?_eq_getElem (by rw [HN.out]; omega)⟩
          obtain ⟨c3, _⟩ := HC.out j y hy
          have d3 := kept_cell HK.out c3
          have hts : (hs.take (j + 1)).map Hd.id = (hs.take j).map Hd.id ++ [y.id] := by
            obtain ⟨hj', hye⟩ := List.getElem?_eq_some_iff.1 hy
            rw [List.take_succ_eq_append_getElem hj', hye, List.map_append]
            rfl
          have HTS := Lib.hid hts
          have HY := Lib.hid hy
          have z1 : (0 : Int) ≤ (j : Int) := by omega
          have z2 : (j : Int) < (n : Int) := by omega
          have z3 : (0 : Int) ≤ (k : Int) := by omega
          have z4 : (k : Int) < (n : Int) := by omega
          clear c3 hts hy
          by_cases he : y.id = x.id
          · have hb2 : (y.id == x.id) = true := by rw [beq_iff_eq]; exact he
            have HE := Lib.hid he
            clear he
            go_wp2_with fail
            go_quiet (fail)
            go_wp2_with fail
            go_ret
            have e := pfx_bad HX.out (fun h => h.2 (by
              rw [List.mem_map]
              exact ⟨y, List.mem_iff_getElem?.2 ⟨j, by rw [List.getElem?_take, if_pos hjk]; exact HY.out⟩, HE.out⟩))
            exact ⟨by (rw [e]) <;> rfl, (HK.out.drewN _).drewN _⟩
          · have hb2 : (y.id == x.id) = false := by rw [beq_eq_false_iff_ne]; exact he
            have HE := Lib.hid he
            clear he
            go_wp2_with fail
            go_quiet (fail)
            go_wp2_with fail
            go_roundw
            case rel =>
              refine ⟨j + 1, _, by go_num, by omega, ?_, rfl⟩
              rw [HTS.out, List.mem_append]
              rintro (h | h)
              · exact HNO.out h
              · simp at h; exact HE.out h.symm
            case measure => simp [intOf]; omega
        · obtain rfl : k = j := by omega
          go_wp2_with fail
          go_roundw
          case rel => exact ⟨k + 1, by go_num, by omega, pfx_step HP.out HX.out ⟨by omega, by omega, by omega⟩ HNO.out, HK.out.drewN _⟩
          case measure => simp [intOf]; omega
    · obtain rfl : n = k := by omega
      clear hp hkp
      go_wp2_with fail
      go_ret
      have e : chk hs = 0 := chk_good ⟨by rw [HN.out]; omega, by rw [HN.out]; exact HP.out⟩
      exact ⟨by (rw [e]) <;> rfl, HK.out⟩

/-- Where the victim stands among the first k; -1: nowhere. -/
def Best (hs : List Hd) (k : Nat) (r : Int) : Prop :=
  (r = -1 ∧ ∀ (i : Nat) (y : Hd), i < k → hs[i]? = some y → ¬ 0 < y.fr) ∨
  ∃ (j : Nat) (x : Hd), r = j ∧ j < k ∧ hs[j]? = some x ∧ 0 < x.fr ∧ ∀ (i : Nat) (y : Hd), i < k → hs[i]? = some y → 0 < y.fr → kh x ≤ kh y

set_option maxRecDepth 100000 in
set_option maxHeartbeats 8000000 in
theorem first_calls (A : Option Addr) (n c : Nat) (hs : List Hd) (w : World) (hn : hs.length = n) (hb : n ≤ 1000) (hL : Hs w A hs) (hok : ∀ x ∈ hs, Hok x) :
    Calls Try.prog 27 #[.slice A n c] w fun e w' => ∃ r : Int, e = .returned (.int .i64 r) ∧ Best hs n r ∧ ∃ q, w' = w.drewN q := by
  have HN := Lib.hid hn
  have HL := Lib.hid hL
  have HOK := Lib.hid (fun (i : Nat) (x : Hd) (h : hs[i]? = some x) => hok x (List.mem_iff_getElem?.2 ⟨i, h⟩))
  clear hn hL hok
  go_enter Try.func27, Try.ntmps27
  go_wp2_with fail
  go_loopw [3, 4] (fun u v wr => ∃ (k q : Nat) (r : Int), v = .int .i64 k ∧ k ≤ n ∧ u = .int .i64 r ∧ Best hs k r ∧ wr = w.drewN q) (fun _ v _ => n - (intOf v).toNat)
  case atStart => exact ⟨0, 0, -1, rfl, by omega, rfl, .inl ⟨rfl, fun i y h => absurd h (Nat.not_lt_zero i)⟩, rfl⟩
  case round =>
    obtain ⟨k, q, r, rfl, hk, rfl, hbest, hw⟩ := hrel
    subst hw
    by_cases hlt : k < n
    · obtain ⟨y, hy⟩ : ∃ y, hs[k]? = some y := ⟨_, List.getElem?_eq_getElem (by rw [HN.out]; exact hlt)⟩
      obtain ⟨g, o, hA, hg, hc⟩ := HL.out (by rintro rfl; simp at hy)
      subst hA
      obtain ⟨c1, c2⟩ := hc k y hy
      have HY := Lib.hid hy
      have z1 : (0 : Int) ≤ (k : Int) := by omega
      have z2 : (k : Int) < (n : Int) := by omega
      have hky := HOK.out k y hy
      have HKY := Lib.hid hky
      clear hy hky
      by_cases hf : 0 < y.fr
      · have d1 : decide (0 < y.fr) = true := decide_eq_true hf
        have HF := Lib.hid hf
        clear hf
        rcases hbest with ⟨rfl, hno⟩ | ⟨j, x, rfl, hj, hx, hxf, hle⟩
        · have HNO := Lib.hid hno
          clear hc hno
          go_wp2_with fail
          go_quiet (fail)
          go_wp2_with fail
          go_roundw
          case rel =>
            refine ⟨k + 1, _, k, by go_num, by omega, rfl, .inr ⟨k, y, rfl, by omega, HY.out, HF.out, fun i z hi hz hzf => ?_⟩, rfl⟩
            by_cases e : i < k
            · exact absurd hzf (by have := HNO.out i z e hz; omega)
            · obtain rfl : i = k := by omega
              have := HY.out; rw [hz] at this; cases this
              exact Int.le_refl _
          case measure => simp [intOf]; omega
        · obtain ⟨c3, c4⟩ := hc j x hx
          have z3 : (0 : Int) ≤ (j : Int) := by omega
          have z4 : (j : Int) < (n : Int) := by omega
          have z5 : decide ((j : Int) < 0) = false := decide_eq_false (by omega)
          have hkx := HOK.out j x hx
          have HX := Lib.hid hx
          have HKX := Lib.hid hkx
          have HLE := Lib.hid hle
          have HXF := Lib.hid hxf
          have hstay : ¬ kh y < kh x → Best hs (k + 1) j := fun hnl => .inr ⟨j, x, rfl, by omega, hx, hxf, fun i z hi hz hzf => by
            by_cases e : i < k
            · exact hle i z e hz hzf
            · obtain rfl : i = k := by omega
              have := HY.out; rw [hz] at this; cases this
              omega⟩
          have hgo : kh y < kh x → Best hs (k + 1) k := fun hl => .inr ⟨k, y, rfl, by omega, HY.out, HF.out, fun i z hi hz hzf => by
            by_cases e : i < k
            · have := hle i z e hz hzf; omega
            · obtain rfl : i = k := by omega
              have := HY.out; rw [hz] at this; cases this
              exact Int.le_refl _⟩
          have HST := Lib.hid hstay
          have HGO := Lib.hid hgo
          clear hc hx hkx hle hxf hstay hgo
          by_cases h1 : x.fr < y.fr
          · have e1 : decide (x.fr < y.fr) = true := decide_eq_true h1
            have HL2 := Lib.hid (show kh y < kh x from (less_iff HKY.out HKX.out).1 (by unfold lessB; rw [if_pos h1]))
            clear h1
            go_wp2_with fail
            go_quiet (fail)
            go_wp2_with fail
            go_roundw
            case rel => exact ⟨k + 1, _, k, by go_num, by omega, rfl, HGO.out HL2.out, rfl⟩
            case measure => simp [intOf]; omega
          · have e1 : decide (x.fr < y.fr) = false := decide_eq_false h1
            by_cases h2 : y.fr = x.fr
            · have e2 : (y.fr == x.fr) = true := by rw [beq_iff_eq]; exact h2
              by_cases h3 : y.id < x.id
              · have e3 : decide (y.id < x.id) = true := decide_eq_true h3
                have HL2 := Lib.hid (show kh y < kh x from (less_iff HKY.out HKX.out).1 (by unfold lessB; rw [if_neg h1, if_pos h2]; exact e3))
                clear h1 h2 h3
                go_wp2_with fail
                go_quiet (fail)
                go_wp2_with fail
                go_roundw
                case rel => exact ⟨k + 1, _, k, by go_num, by omega, rfl, HGO.out HL2.out, rfl⟩
                case measure => simp [intOf]; omega
              · have e3 : decide (y.id < x.id) = false := decide_eq_false h3
                have HL2 := Lib.hid (show ¬ kh y < kh x from fun h => by have := (less_iff HKY.out HKX.out).2 h; unfold lessB at this; rw [if_neg h1, if_pos h2, e3] at this; cases this)
                clear h1 h2 h3
                go_wp2_with fail
                go_quiet (fail)
                go_wp2_with fail
                go_roundw
                case rel => exact ⟨k + 1, _, j, by go_num, by omega, rfl, HST.out HL2.out, rfl⟩
                case measure => simp [intOf]; omega
            · have e2 : (y.fr == x.fr) = false := by rw [beq_eq_false_iff_ne]; exact h2
              have HL2 := Lib.hid (show ¬ kh y < kh x from fun h => by have := (less_iff HKY.out HKX.out).2 h; unfold lessB at this; rw [if_neg h1, if_neg h2] at this; cases this)
              clear h1 h2
              go_wp2_with fail
              go_quiet (fail)
              go_wp2_with fail
              go_roundw
              case rel => exact ⟨k + 1, _, j, by go_num, by omega, rfl, HST.out HL2.out, rfl⟩
              case measure => simp [intOf]; omega
      · have d1 : decide (0 < y.fr) = false := decide_eq_false hf
        have hst : Best hs (k + 1) r := by
          rcases hbest with ⟨rfl, hno⟩ | ⟨j, x, rfl, hj, hx, hxf, hle⟩
          · refine .inl ⟨rfl, fun i z hi hz => ?_⟩
            by_cases e : i < k
            · exact hno i z e hz
            · obtain rfl : i = k := by omega
              have := HY.out; rw [hz] at this; cases this
              exact hf
          · refine .inr ⟨j, x, rfl, by omega, hx, hxf, fun i z hi hz hzf => ?_⟩
            by_cases e : i < k
            · exact hle i z e hz hzf
            · obtain rfl : i = k := by omega
              have := HY.out; rw [hz] at this; cases this
              exact absurd hzf hf
        have HST := Lib.hid hst
        clear hc hbest hf hst
        go_wp2_with fail
        go_quiet (fail)
        go_wp2_with fail
        go_roundw
        case rel => exact ⟨k + 1, _, r, by go_num, by omega, rfl, HST.out, rfl⟩
        case measure => simp [intOf]; omega
    · obtain rfl : n = k := by omega
      have HB := Lib.hid hbest
      clear hbest
      go_wp2_with fail
      go_ret
      exact ⟨r, rfl, HB.out, _, rfl⟩
end Go.Proofs.Ytflljldmcidhgaa
