/- The law OutboxRound: the walk. -/
import Derived.Test.YtoohkcboidamnaaObQ
namespace Go.Proofs.Ytoohkcboidamnaa
open Go.RowKit
set_option linter.unusedVariables false
set_option linter.unusedSimpArgs false
set_option linter.unnecessarySimpa false

theorem pick_nat (x n : Int) (m : Nat) (w : World) (h1 : 1 ≤ n) (h2 : n ≤ 1073741824) (hx : -9223372036854775808 ≤ x) (hx' : x ≤ 9223372036854775807) (hm : x % n = m) :
    Calls Try.prog 9 #[.int .i64 x, .int .i64 n] w fun e w' => e = .returned (.int .i64 m) ∧ w = w' := by
  rw [← hm]; exact pick_any x n w h1 h2 hx hx'

/-- The items that a round pushes. -/
def row (first : Int) (i : Nat) : Nat → Nat → List It
  | _, 0 => []
  | j, n + 1 => ⟨wrap64 (first + (j : Int)), 0, (i : Int), 0⟩ :: row first i (j + 1) n

theorem row_snoc (first : Int) (i : Nat) : ∀ (n j : Nat), row first i j n ++ [⟨wrap64 (first + ((j + n : Nat) : Int)), 0, (i : Int), 0⟩] = row first i j (n + 1)
  | 0, j => rfl
  | n + 1, j => by
    have h := row_snoc first i n (j + 1)
    rw [show j + 1 + n = j + (n + 1) from by omega] at h
    show _ :: (_ ++ _) = _ :: _
    rw [h]

theorem row_length (first : Int) (i : Nat) : ∀ (n j : Nat), (row first i j n).length = n
  | 0, _ => rfl
  | n + 1, j => by simp [row, row_length first i n (j + 1)]

set_option maxHeartbeats 4000000 in
set_option maxRecDepth 100000 in
theorem round_calls (most often first : Int) (w : World) (h1 : -9223372036854775808 ≤ most) (h1' : most ≤ 9223372036854775807) (h2 : -9223372036854775808 ≤ often) (h2' : often ≤ 9223372036854775807) :
    Calls Try.prog 3 #[.int .i64 most, .int .i64 often, .int .i64 first] w fun e w' => e = .returned (.bool true) ∧ Kept w w' := by
  have e1 := Int.emod_nonneg most (show (12 : Int) ≠ 0 by omega)
  have e2 := Int.emod_lt_of_pos most (show (0 : Int) < 12 by omega)
  have e3 := Int.emod_nonneg often (show (31 : Int) ≠ 0 by omega)
  have e4 := Int.emod_lt_of_pos often (show (0 : Int) < 31 by omega)
  obtain ⟨M, hM⟩ := Int.eq_ofNat_of_zero_le e1
  obtain ⟨O, hO⟩ := Int.eq_ofNat_of_zero_le e3
  have bM : M < 12 := by omega
  have bO : O < 31 := by omega
  have HM := Lib.hid hM
  have HO := Lib.hid hO
  clear e1 e2 e3 e4 hM hO
  go_enter Try.func3, Try.ntmps3
  go_wp2_with fail
  refine (awake_calls _).mono ?_
  rintro e w1 ⟨rfl, hk1⟩
  go_wp2_with fail
  refine (pick_nat most 12 M _ (by omega) (by omega) h1 h1' HM.out).mono ?_
  rintro e w2 ⟨rfl, rfl⟩
  go_wp2_with fail
  refine (pick_nat often 31 O _ (by omega) (by omega) h2 h2' HO.out).mono ?_
  rintro e w2 ⟨rfl, rfl⟩
  go_wp2_with fail
  obtain ⟨N, hN⟩ : ∃ N : Nat, 1 + (M : Int) = N := ⟨M + 1, by omega⟩
  rw [hN]
  have bN : 1 ≤ N := by omega
  have bN2 : N ≤ 12 := by omega
  have HNM := Lib.hid hN
  clear hN
  refine (new_at N _ _ rfl (by omega) (by omega)).mono ?_
  rintro e w2 ⟨b, r, ring, rfl, ho2, hb, hr, hk2⟩
  go_wp2_with fail
  have hno : ∀ i, i < w.heap.size → (i = b ∨ i = r) → False := by
    intro i hi h
    have := hk1.size
    omega
  have K2 : Kept w w2 := hk1.trans hk2
  have HN := Lib.hid hno
  clear hno hk1 hk2
  go_loopw [10] (fun v wr => ∃ (i : Nat) (rg : Array Value), v = .int .i64 i ∧ i ≤ O + 1 ∧ OB wr b r N (i * N) (i * N) [] rg ∧ Kept w wr) (fun v _ => O + 1 - (intOf v).toNat)
  case atStart => exact ⟨0, ring, rfl, by omega, by simpa using ho2, K2⟩
  case round =>
    obtain ⟨i, rg, rfl, hi, ho, hk⟩ := hrel
    obtain ⟨wo, rfl⟩ : ∃ wo : World, wo = wr := ⟨_, rfl⟩
    have hcb : i * N ≤ 31 * 12 := Nat.mul_le_mul (by omega) (by omega)
    have HC := Lib.hid (show i * N + N = (i + 1) * N by rw [Nat.succ_mul])
    have HC2 := Lib.hid (show ∀ q, q = O + 1 → q = i → ((i * N : Nat) : Int) = ((O : Int) + 1) * (N : Int) by rintro _ rfl rfl; rw [Int.natCast_mul]; rfl)
    generalize i * N = C at *
    by_cases hlt : i ≤ O
    · go_wp2_with fail
      go_loopw [11] (fun v wr => ∃ (j : Nat) (rg : Array Value), v = .int .i64 j ∧ j ≤ N ∧ OB wr b r N (C + j) C (row first i 0 j) rg ∧ Kept w wr) (fun v _ => N - (intOf v).toNat)
      case atStart => exact ⟨0, rg, rfl, by omega, ho, hk⟩
      case round =>
        obtain ⟨j, rg1, rfl, hj, ho1, hk1⟩ := hrel
        by_cases hjl : j < N
        · go_wp2_with fail
          have hrl := row_length first i j 0
          refine (push_ok b r N _ _ _ rg1 _ _ _ _ _ ho1 (by omega) (by omega)).mono ?_
          rintro e w3 ⟨rfl, ho3, hk3⟩
          have HO3 := Lib.hid ho3
          clear ho3 hrl
          go_wp2_with fail
          go_roundw
          case rel =>
            have h3 := HO3.out
            have hsn := row_snoc first i j 0
            rw [Nat.zero_add] at hsn
            rw [hsn] at h3
            exact ⟨j + 1, _, by go_num, by omega, h3, hk1.trans' hk3 HN.out⟩
          case measure => simp [intOf]; omega
        · obtain rfl : N = j := by omega
          have hrl := row_length first i N 0
          go_wp2_with fail
          refine (push_full b r N _ _ _ rg1 0 0 0 0 _ ho1 (by omega) hrl).mono ?_
          rintro e w3 ⟨rfl, hk3⟩
          have ho3 := ho1.keep hk3 (fun h => h) (fun h => h)
          have hk4 : Kept w w3 := hk1.trans hk3
          go_wp2_with fail
          refine (len_ob b r N _ _ _ _ _ ho3 (by omega)).mono ?_
          rintro e w4 ⟨rfl, n4, rfl⟩
          rw [hrl]
          clear hrl
          go_wp2_with fail
          have ho5 := ho3.drewN n4
          have hk5 : Kept w (w3.drewN n4) := hk4.drewN n4
          generalize w3.drewN n4 = w5 at *
          obtain ⟨wi, rfl⟩ : ∃ wi : World, wi = wr := ⟨_, rfl⟩
          go_loopw [12] (fun v wr => ∃ (j d : Nat), v = .int .i64 j ∧ j + d = N ∧ OB wr b r N (C + N) (C + j) (row first i j d) rg1 ∧ Kept w wr) (fun v _ => N - (intOf v).toNat)
          case atStart => exact ⟨0, N, rfl, by omega, ho5, hk5⟩
          case round =>
            obtain ⟨j, d, rfl, hjd, ho6, hk6⟩ := hrel
            have HJ := Lib.hid hjd
            cases d with
            | zero =>
              clear hjd
              have hjN : ¬ j < N := by have := HJ.out; omega
              go_wp2_with fail
              refine (pops_none b r N _ _ _ _ ho6 (by omega)).mono ?_
              rintro e w7 ⟨rfl, hk7⟩
              have ho7 := Lib.hid (ho6.keep hk7 (fun h => h) (fun h => h))
              have hk8 := Lib.hid (hk6.trans hk7)
              go_wp2_with fail
              go_roundw
              case rel =>
                obtain rfl : j = N := by have := HJ.out; omega
                exact ⟨i + 1, rg1, by go_num, by omega, by rw [← HC.out]; exact ho7.out, hk8.out⟩
              case measure => simp [intOf]; omega
            | succ d =>
              clear hjd
              have hjN : j < N := by have := HJ.out; omega
              go_wp2_with fail
              refine (pop_ok b r N _ _ _ _ _ _ ho6 (by omega)).mono ?_
              rintro e w7 ⟨rfl, ho7, hk7⟩
              have HO7 := Lib.hid ho7
              have HK7 := Lib.hid (hk6.trans' hk7 (fun q hq h => HN.out q hq (.inl h)))
              clear ho7 hk7
              go_wp2_with fail
              go_roundw
              case rel => exact ⟨j + 1, d, by go_num, by have := HJ.out; omega, HO7.out.alloc _, HK7.out.alloc _⟩
              case measure => simp [intOf]; omega
    · obtain rfl : O + 1 = i := by omega
      go_wp2_with fail
      refine (ever_ob b r N _ _ _ _ _ ho).mono ?_
      rintro e w7 ⟨rfl, rfl⟩
      go_wp2_with fail
      go_ret
      have hC := HC2.out _ rfl rfl
      have hw : wrap64 (((O : Int) + 1) * (N : Int)) = (C : Int) := by rw [← hC]; exact IntWalk.wrap64_in (C : Int) ⟨by omega, by omega⟩
      refine ⟨?_, hk⟩
      show Ending.returned (.bool ((C : Int) == wrap64 (((O : Int) + 1) * (N : Int)))) = _
      rw [hw]
      simp

end Go.Proofs.Ytoohkcboidamnaa
