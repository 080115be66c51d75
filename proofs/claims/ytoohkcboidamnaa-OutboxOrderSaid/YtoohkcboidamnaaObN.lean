/- New, Pick, pops. -/
import Derived.Test.YtoohkcboidamnaaObP
namespace Go.Proofs.Ytoohkcboidamnaa
open Go.RowKit
set_option linter.unusedVariables false
set_option linter.unusedSimpArgs false
set_option linter.unnecessarySimpa false

/-- 'make([]T, n)', T of any number of cells: for every world. -/
theorem run_make_rowN {P : Program} (t e : TypeId) (i : TypeInfo) (z : Value) (ht : P.underlying t = some (.slice e)) (hi : P.info? e = some i) (hz : i.zero = some z)
    (kl kc : IntKind) (n c : Nat) (hnc : n ≤ c) (hbytes : i.bytes * c ≤ 281474976710656) (h63 : c ≤ 9223372036854775807) (w : World) :
    (Instr.makeSlice t (.int kl (n : Int)) (.int kc (c : Int))).run P w = .ok (.slice (some ⟨w.heap.size, 0, none⟩) n c) (w.alloc (.cells (madeCells z.cells (c * i.size)) e)) := by
  have hb : (i.bytes : Int) * (c : Int) ≤ 281474976710656 := by
    have h : ((i.bytes * c : Nat) : Int) ≤ 281474976710656 := by omega
    rwa [Int.natCast_mul] at h
  have hr := run_make (P := P) w t e i z ht hi hz kl kc n c (by omega) (by omega) hb (by omega)
  simp only [Int.toNat_natCast] at hr
  exact hr

theorem Try.info30 : (Try.prog.info? 30).map (fun i => (i.zero, i.size, i.bytes)) = some (some (.agg #[.int .i64 0, .int .i64 0, .int .i64 0, .int .i64 0]), 4, 32) := by kernel_rfl

theorem new_no (n : Int) (w : World) (h : n < 1 ∨ 1000 < n) :
    Calls Try.prog 10 #[.int .i64 n] w fun e w' => e = .returned (.tuple #[.pointer none, .int .i64 3]) ∧ w = w' := by
  rcases h with h | h
  · go_enter Try.func10, Try.ntmps10
    go_wp2
    go_ret2
    exact ⟨rfl, rfl⟩
  · have h' : ¬ n < 1 := by omega
    go_enter Try.func10, Try.ntmps10
    go_wp2
    go_ret2
    exact ⟨rfl, rfl⟩

theorem new_ok (n : Int) (w : World) (h1 : 1 ≤ n) (h2 : n ≤ 1000) :
    Calls Try.prog 10 #[.int .i64 n] w fun e w' => e = .returned (.tuple #[.pointer (some ⟨w.heap.size + 1, 0, none⟩), .int .i64 0]) ∧
      OB w' (w.heap.size + 1) w.heap.size n.toNat 0 0 [] (madeCells (Value.agg #[.int .i64 0, .int .i64 0, .int .i64 0, .int .i64 0]).cells (n.toNat * 4)) ∧ Kept w w' ∧ w'.heap.size = w.heap.size + 2 := by
  obtain ⟨i0, hi, hz0, hz1, hz2⟩ := info_parts Try.info30
  obtain ⟨m, rfl⟩ := Int.eq_ofNat_of_zero_le (show (0 : Int) ≤ n by omega)
  have hmk := fun W => run_make_rowN (P := Try.prog) 42 30 i0 _ Try.underlying42 hi hz0 .i64 .i64 m m (Nat.le_refl _) (by rw [hz2]; omega) (by omega) W
  rw [hz1] at hmk
  have ez : (Value.agg #[.int .i64 0, .int .i64 0, .int .i64 0, .int .i64 0]).cells = #[.int .i64 0, .int .i64 0, .int .i64 0, .int .i64 0] := by simp [Value.cells]
  rw [ez] at *
  clear hi hz0 hz1 hz2
  rw [Int.toNat_natCast]
  go_enter Try.func10, Try.ntmps10
  go_wp2
  go_ret2
  have hsz : (madeCells (Value.agg #[.int .i64 0, .int .i64 0, .int .i64 0, .int .i64 0]).cells (m * 4)).size = m * 4 := size_madeCells _ _
  refine ⟨rfl, ⟨?_, (Blk.new w _ _).alloc _, hsz, rfl, by simp, by omega, by omega, RingAt.nil _ _ _⟩, ((Only.refl _ _).alloc _).alloc _, by simp⟩
  have := Blk.new (w.alloc (.cells (madeCells #[.int .i64 0, .int .i64 0, .int .i64 0, .int .i64 0] (m * 4)) 30)) 49 #[.slice (some ⟨w.heap.size, 0, none⟩) m m, .int .i64 0, .int .i64 0]
  simpa using this

theorem ret_int {k : IntKind} {a b : Int} (h : a = b) : Ending.returned (.int k a) = .returned (.int k b) := by rw [h]

theorem tmod_up {x n : Int} (h : x < 0) (hn : 1 ≤ n) (ht : 0 ≤ x.tmod n) : x.tmod n = x % n := by
  have e := @Int.tmod_eq_emod x n
  have h1 := Int.emod_lt_of_pos x (show 0 < n by omega)
  have h0 := Int.emod_nonneg x (show n ≠ 0 by omega)
  split at e
  · omega
  · omega

theorem tmod_down {x n : Int} (h : x < 0) (hn : 1 ≤ n) (ht : x.tmod n < 0) : x.tmod n + n = x % n := by
  have e := @Int.tmod_eq_emod x n
  have h1 := Int.emod_lt_of_pos x (show 0 < n by omega)
  have h0 := Int.emod_nonneg x (show n ≠ 0 by omega)
  split at e
  · omega
  · omega

theorem pick_any (x n : Int) (w : World) (h1 : 1 ≤ n) (h2 : n ≤ 1073741824) (hx : -9223372036854775808 ≤ x) (hx' : x ≤ 9223372036854775807) :
    Calls Try.prog 9 #[.int .i64 x, .int .i64 n] w fun e w' => e = .returned (.int .i64 (x % n)) ∧ w = w' := by
  by_cases h0 : 0 ≤ x
  · have h3 := Int.emod_nonneg x (show n ≠ 0 by omega)
    go_enter Try.func9, Try.ntmps9
    go_wp2
    go_ret
    exact ⟨rfl, rfl⟩
  · have h3 := Int.emod_nonneg x (show n ≠ 0 by omega)
    have h4 := Int.emod_lt_of_pos x (show 0 < n by omega)
    go_enter Try.func9, Try.ntmps9
    go_wp2
    all_goals go_ret
    · first
        | exact ⟨ret_int (by rw [tmod_down (by omega) (by omega) (by assumption)]; exact IntWalk.wrap64_in (x % n) ⟨by omega, by omega⟩), rfl⟩
        | exact ⟨ret_int (tmod_up (by omega) (by omega) (by assumption)), rfl⟩
    · first
        | exact ⟨ret_int (by rw [tmod_down (by omega) (by omega) (by assumption)]; exact IntWalk.wrap64_in (x % n) ⟨by omega, by omega⟩), rfl⟩
        | exact ⟨ret_int (tmod_up (by omega) (by omega) (by assumption)), rfl⟩

end Go.Proofs.Ytoohkcboidamnaa
