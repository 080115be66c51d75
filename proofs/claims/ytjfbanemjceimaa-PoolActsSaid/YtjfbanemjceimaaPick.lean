/- praxinoscopekit.Pick. -/
import Derived.Test.YtjfbanemjceimaaProg
import Derived.Test.YtjfbanemjceimaaBase
import Derived.IntWalk
namespace Go.Proofs.Ytjfbanemjceimaa
open Go.RowKit
set_option linter.unusedVariables false
set_option linter.unusedSimpArgs false
set_option linter.unnecessarySimpa false

theorem ret_int {k : IntKind} {a b : Int} (h : a = b) : Ending.returned (.int k a) = .returned (.int k b) := by rw [h]

theorem tmod_up {x n : Int} (h : x < 0) (hn : 1 ≤ n) (ht : 0 ≤ x.tmod n) : x.tmod n = x % n := by
  have e := @Int.tmod_eq_emod x n
  have h1 := Int.emod_lt_of_pos x (show 0 < n by omega)
  have h0 := Int.emod_nonneg x (show n ≠ 0 by omega)
  split at e
  · omega
  · omega

theorem tmod_down {x n : Int} (h : x < 0) (hn : 1 ≤ n) (ht : x.tmod n < 0) : x.tmod n + n = x % n := by
  have e := @Int.tmod_eq_emod x n
  have h1 := Int.emod_lt_of_pos x (show 0 < n by omega)
  have h0 := Int.emod_nonneg x (show n ≠ 0 by omega)
  split at e
  · omega
  · omega

theorem pick_any (x n : Int) (w : World) (h1 : 1 ≤ n) (h2 : n ≤ 1073741824) (hx : -9223372036854775808 ≤ x) (hx' : x ≤ 9223372036854775807) :
    Calls Try.prog 19 #[.int .i64 x, .int .i64 n] w fun e w' => e = .returned (.int .i64 (x % n)) ∧ w = w' := by
  by_cases h0 : 0 ≤ x
  · have h3 := Int.emod_nonneg x (show n ≠ 0 by omega)
    go_enter Try.func19, Try.ntmps19
    go_wp2
    go_ret
    exact ⟨rfl, rfl⟩
  · have h3 := Int.emod_nonneg x (show n ≠ 0 by omega)
    have h4 := Int.emod_lt_of_pos x (show 0 < n by omega)
    go_enter Try.func19, Try.ntmps19
    go_wp2
    all_goals go_ret
    · first
        | exact ⟨ret_int (by rw [tmod_down (by omega) (by omega) (by assumption)]; exact IntWalk.wrap64_in (x % n) ⟨by omega, by omega⟩), rfl⟩
        | exact ⟨ret_int (tmod_up (by omega) (by omega) (by assumption)), rfl⟩
    · first
        | exact ⟨ret_int (by rw [tmod_down (by omega) (by omega) (by assumption)]; exact IntWalk.wrap64_in (x % n) ⟨by omega, by omega⟩), rfl⟩
        | exact ⟨ret_int (tmod_up (by omega) (by omega) (by assumption)), rfl⟩

theorem pick_nat (x n : Int) (m : Nat) (w : World) (h1 : 1 ≤ n) (h2 : n ≤ 1073741824) (hx : -9223372036854775808 ≤ x) (hx' : x ≤ 9223372036854775807) (hm : x % n = m) :
    Calls Try.prog 19 #[.int .i64 x, .int .i64 n] w fun e w' => e = .returned (.int .i64 m) ∧ w = w' := by
  rw [← hm]; exact pick_any x n w h1 h2 hx hx'

/-- x modulo n, as a number of its own. -/
theorem pick_num (x n : Int) (h1 : 1 ≤ n) : ∃ m : Nat, x % n = m ∧ (m : Int) < n := by
  obtain ⟨m, hm⟩ := Int.eq_ofNat_of_zero_le (Int.emod_nonneg x (show n ≠ 0 by omega))
  exact ⟨m, hm, by rw [← hm]; exact Int.emod_lt_of_pos x (by omega)⟩
end Go.Proofs.Ytjfbanemjceimaa
