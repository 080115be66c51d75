/- A pool that nobody made, and the law PoolNone. -/
import Derived.Deep.Cut
import Derived.Test.YtjfbanemjceimaaPlZ
namespace Go.Proofs.Ytjfbanemjceimaa
open Go.RowKit Go.Maps
set_option linter.unusedVariables false
set_option linter.unusedSimpArgs false
set_option linter.unnecessarySimpa false

theorem quiet_left {P : Program} {f : FuncId} {args : Array Value} {w : World} {n : Nat} {v : Value}
    (h : Calls P f args (w.drewN n) fun e w' => e = .returned v ∧ w.drewN n = w') : Calls P f args (w.drewN n) fun e w'' => e = .returned v ∧ ∃ m, w'' = w.drewN m :=
  h.mono fun _ _ ⟨he, hm⟩ => ⟨he, n, hm.symm⟩

/-- Nobody made V. -/
def NoPool (w : World) (V : Value) : Prop := Calls Try.prog 28 #[V] w fun e w' => e = .returned (.bool true) ∧ w = w'

section
variable {w : World} {V : Value} (h : NoPool w V)
include h

theorem no_acq (o : Int) : Calls Try.prog 8 #[V, .int .i64 o] w fun e w' => e = .returned (.tuple #[.int .i64 0, .int .i64 1]) ∧ w = w' := by
  go_enter Try.func8, Try.ntmps8
  go_wp2_with fail
  refine Calls.mono h ?_
  rintro e w' ⟨rfl, rfl⟩
  go_wp2_with fail
  go_returns
  exact ⟨rfl, rfl⟩

theorem no_recl (o : Int) : Calls Try.prog 9 #[V, .int .i64 o] w fun e w' => e = .returned (.tuple #[.int .i64 0, .int .i64 1]) ∧ w = w' := by
  go_enter Try.func9, Try.ntmps9
  go_wp2_with fail
  refine Calls.mono h ?_
  rintro e w' ⟨rfl, rfl⟩
  go_wp2_with fail
  go_returns
  exact ⟨rfl, rfl⟩

theorem no_of (n o : Int) : Calls Try.prog 32 #[V, .int .i64 n, .int .i64 o] w fun e w' => e = .returned (.tuple #[.pointer none, .int .i64 1]) ∧ w = w' := by
  go_enter Try.func32, Try.ntmps32
  go_wp2_with fail
  refine Calls.mono h ?_
  rintro e w' ⟨rfl, rfl⟩
  go_wp2_with fail
  go_returns
  exact ⟨rfl, rfl⟩

theorem no_mem (n o : Int) : Calls Try.prog 10 #[V, .int .i64 n, .int .i64 o] w fun e w' => e = .returned (.tuple #[.slice none 0 0, .int .i64 1]) ∧ w = w' := by
  have hc := no_of h n o
  clear h
  go_enter Try.func10, Try.ntmps10
  go_wp2_with fail
  refine Calls.mono hc ?_
  rintro e w' ⟨rfl, rfl⟩
  clear hc
  go_wp2_with fail
  go_returns
  exact ⟨rfl, rfl⟩

theorem no_look (n o : Int) : Calls Try.prog 11 #[V, .int .i64 n, .int .i64 o] w fun e w' => e = .returned (.tuple #[.slice none 0 0, .int .i64 1]) ∧ w = w' := by
  go_enter Try.func11, Try.ntmps11
  go_wp2_with fail
  refine Calls.mono h ?_
  rintro e w' ⟨rfl, rfl⟩
  go_wp2_with fail
  go_returns
  exact ⟨rfl, rfl⟩

theorem no_ret (n o : Int) : Calls Try.prog 12 #[V, .int .i64 n, .int .i64 o] w fun e w' => e = .returned (.int .i64 1) ∧ w = w' := by
  have hc := no_of h n o
  clear h
  go_enter Try.func12, Try.ntmps12
  go_wp2_with fail
  refine Calls.mono hc ?_
  rintro e w' ⟨rfl, rfl⟩
  clear hc
  go_wp2_with fail
  go_returns
  exact ⟨rfl, rfl⟩

theorem no_rel (n o : Int) : Calls Try.prog 13 #[V, .int .i64 n, .int .i64 o] w fun e w' => e = .returned (.int .i64 1) ∧ w = w' := by
  have hc := no_of h n o
  clear h
  go_enter Try.func13, Try.ntmps13
  go_wp2_with fail
  refine Calls.mono hc ?_
  rintro e w' ⟨rfl, rfl⟩
  clear hc
  go_wp2_with fail
  go_returns
  exact ⟨rfl, rfl⟩

theorem no_own (n : Int) : Calls Try.prog 14 #[V, .int .i64 n] w fun e w' => e = .returned (.int .i64 0) ∧ w = w' := by
  go_enter Try.func14, Try.ntmps14
  go_wp2_with fail
  refine Calls.mono h ?_
  rintro e w' ⟨rfl, rfl⟩
  go_wp2_with fail
  go_returns
  exact ⟨rfl, rfl⟩

theorem no_hand (n : Int) : Calls Try.prog 15 #[V, .int .i64 n] w fun e w' => e = .returned (.int .i64 0) ∧ w = w' := by
  go_enter Try.func15, Try.ntmps15
  go_wp2_with fail
  refine Calls.mono h ?_
  rintro e w' ⟨rfl, rfl⟩
  go_wp2_with fail
  go_returns
  exact ⟨rfl, rfl⟩

theorem no_held (o : Int) : Calls Try.prog 16 #[V, .int .i64 o] w fun e w' => e = .returned (.int .i64 0) ∧ w = w' := by
  go_enter Try.func16, Try.ntmps16
  go_wp2_with fail
  refine Calls.mono h ?_
  rintro e w' ⟨rfl, rfl⟩
  go_wp2_with fail
  go_returns
  exact ⟨rfl, rfl⟩

theorem no_free : Calls Try.prog 17 #[V] w fun e w' => e = .returned (.int .i64 0) ∧ w = w' := by
  go_enter Try.func17, Try.ntmps17
  go_wp2_with fail
  refine Calls.mono h ?_
  rintro e w' ⟨rfl, rfl⟩
  go_wp2_with fail
  go_returns
  exact ⟨rfl, rfl⟩
end
end Go.Proofs.Ytjfbanemjceimaa
