/- pops, two, awake. -/
import Derived.Test.YtoohkcboidamnaaObN
namespace Go.Proofs.Ytoohkcboidamnaa
open Go.RowKit
set_option linter.unusedVariables false
set_option linter.unusedSimpArgs false
set_option linter.unnecessarySimpa false

set_option maxHeartbeats 1000000 in
theorem pops_ok (b r m c g : Nat) (f : Int) (l : List It) (ring : Array Value) (w : World) (h : OB w b r m c g (⟨f, 0, 0, 0⟩ :: l) ring) (hc : c ≤ 1073741824) :
    Calls Try.prog 14 #[.pointer (some ⟨b, 0, none⟩), .int .i64 f, .int .i64 0] w fun e w' => e = .returned (.bool true) ∧
      OB w' b r m c (g + 1) l ring ∧ Only (fun k => k = b) w w' := by
  have hlb := h.box.lt
  have hlr := h.row.lt
  have H := Lib.hid h
  clear h
  go_enter Try.func14, Try.ntmps14
  go_wp2_with (go_at_call 13; refine (pop_ok b r m c g _ l ring _ H.out hc).mono ?_; rintro e w1 ⟨rfl, hob, ho⟩)
  go_ret
  exact ⟨rfl, hob.alloc _, ho.alloc _⟩

set_option maxHeartbeats 1000000 in
theorem pops_none (b r m c g : Nat) (ring : Array Value) (w : World) (h : OB w b r m c g [] ring) (hc : c ≤ 1073741824) :
    Calls Try.prog 14 #[.pointer (some ⟨b, 0, none⟩), .int .i64 0, .int .i64 16] w fun e w' => e = .returned (.bool true) ∧ Kept w w' := by
  have H := Lib.hid h
  clear h
  go_enter Try.func14, Try.ntmps14
  go_wp2_with (go_at_call 13; refine (pop_empty b r m c g ring _ H.out hc).mono ?_; rintro e w1 ⟨rfl, ho⟩)
  go_ret
  exact ⟨rfl, ho.alloc _⟩

theorem new_at (m : Nat) (n : Int) (w : World) (hn : n = m) (h1 : 1 ≤ m) (h2 : m ≤ 1000) :
    Calls Try.prog 10 #[.int .i64 n] w fun e w' => ∃ b r ring, e = .returned (.tuple #[.pointer (some ⟨b, 0, none⟩), .int .i64 0]) ∧ OB w' b r m 0 0 [] ring ∧ w.heap.size ≤ b ∧ w.heap.size ≤ r ∧ Kept w w' := by
  refine (new_ok n w (by omega) (by omega)).mono ?_
  rintro e w' ⟨he, ho, hk, _⟩
  subst hn
  rw [Int.toNat_natCast] at ho
  exact ⟨_, _, _, he, ho, by omega, by omega, hk⟩

set_option maxHeartbeats 2000000 in
theorem two_calls (w : World) :
    Calls Try.prog 26 #[] w fun e w' => ∃ b r ring, e = .returned (.pointer (some ⟨b, 0, none⟩)) ∧ OB w' b r 2 2 0 [⟨7, 0, 0, 0⟩, ⟨8, 0, 0, 0⟩] ring ∧ w.heap.size ≤ b ∧ w.heap.size ≤ r ∧ Kept w w' := by
  go_enter Try.func26, Try.ntmps26
  go_wp2_with fail
  refine (new_at 2 2 _ rfl (by omega) (by omega)).mono ?_
  rintro e w1 ⟨b, r, ring, rfl, ho1, hb, hr, hk1⟩
  go_wp2_with fail
  refine (push_ok b r 2 0 0 [] ring 7 0 0 0 _ ho1 (by omega) (by simp)).mono ?_
  rintro e w2 ⟨rfl, ho2, hk2⟩
  go_wp2_with fail
  refine (push_ok b r 2 _ 0 _ _ 8 0 0 0 _ ho2 (by omega) (by simp)).mono ?_
  rintro e w3 ⟨rfl, ho3, hk3⟩
  go_wp2_with fail
  refine (push_full b r 2 _ 0 _ _ 9 0 0 0 _ ho3 (by omega) (by simp)).mono ?_
  rintro e w4 ⟨rfl, hk4⟩
  have ho4 := ho3.keep hk4 (fun h => h) (fun h => h)
  go_wp2_with fail
  refine (len_ob b r 2 _ 0 _ _ _ ho4 (by omega)).mono ?_
  rintro e w5 ⟨rfl, n5, rfl⟩
  go_wp2_with fail
  refine (room_ob b r 2 _ 0 _ _ _ (ho4.drewN _) (by omega)).mono ?_
  rintro e w6 ⟨rfl, n6, rfl⟩
  go_wp2_with fail
  refine (ever_ob b r 2 _ 0 _ _ _ (ho4.drewN _)).mono ?_
  rintro e w7 ⟨rfl, rfl⟩
  go_wp2_with fail
  go_ret
  refine ⟨b, r, _, rfl, (ho4.drewN _), hb, hr, Only.drewN ?_ _⟩
  have hno : ∀ i, i < w.heap.size → (i = b ∨ i = r) → False := by intro i hi h; omega
  exact ((hk1.trans' hk2 hno).trans' hk3 hno).trans hk4

theorem awake_calls (w : World) : Calls Try.prog 8 #[] w fun e w' => e = .returned (.bool true) ∧ Kept w w' := by
  go_enter Try.func8, Try.ntmps8
  go_wp2_with fail
  refine (two_calls _).mono ?_
  rintro e w1 ⟨b, r, ring, rfl, ho1, hb, hr, hk1⟩
  go_wp2_with fail
  refine (pops_ok b r 2 _ 0 7 _ _ _ ho1 (by omega)).mono ?_
  rintro e w2 ⟨rfl, ho2, hk2⟩
  go_wp2_with fail
  refine (room_ob b r 2 _ _ _ _ _ ho2 (by omega)).mono ?_
  rintro e w3 ⟨rfl, n3, rfl⟩
  go_wp2_with fail
  go_ret
  exact ⟨rfl, (hk1.trans' hk2 (by intro i hi h; omega)).drewN _⟩

end Go.Proofs.Ytoohkcboidamnaa
