/- Holders: their order; Len, Less, Swap. -/
import Derived.Test.YtflljldmcidhgaaProg
import Derived.Test.YtflljldmcidhgaaHeap
namespace Go.Proofs.Ytflljldmcidhgaa
open Go.RowKit
set_option linter.unusedVariables false
set_option linter.unusedSimpArgs false
set_option linter.unnecessarySimpa false

/-- A holder: its number, its frames. -/
structure Hd where
  id : Int
  fr : Int

/-- A holder that Check lets in. -/
def Hok (x : Hd) : Prop := 1 ≤ x.id ∧ x.id ≤ 9223372036854775807 ∧ 0 ≤ x.fr ∧ x.fr ≤ 64

/-- Whoever has the lesser one goes first. -/
def kh (x : Hd) : Int := x.id - x.fr * 18446744073709551616

/-- Less. -/
def lessB (x y : Hd) : Bool := if y.fr < x.fr then true else if x.fr = y.fr then decide (x.id < y.id) else false

theorem less_iff {x y : Hd} (hx : Hok x) (hy : Hok y) : lessB x y = true ↔ kh x < kh y := by
  obtain ⟨a1, a2, a3, a4⟩ := hx
  obtain ⟨b1, b2, b3, b4⟩ := hy
  unfold lessB kh
  by_cases h1 : y.fr < x.fr
  · rw [if_pos h1]; simp; omega
  · rw [if_neg h1]
    by_cases h2 : x.fr = y.fr
    · rw [if_pos h2, h2]; simp
    · rw [if_neg h2]; simp; omega

theorem less_t {x y : Hd} (hx : Hok x) (hy : Hok y) (h : kh x < kh y) : lessB x y = true := (less_iff hx hy).2 h
theorem less_f {x y : Hd} (hx : Hok x) (hy : Hok y) (h : ¬ kh x < kh y) : lessB x y = false := by
  cases e : lessB x y with
  | false => rfl
  | true => exact absurd ((less_iff hx hy).1 e) h

theorem hlen_ok (A : Option Addr) (n cap : Nat) (w : World) : Calls Try.prog 52 #[.slice A n cap] w fun e w' => e = .returned (.int .i64 n) ∧ w = w' := by
  go_enter Try.func52, Try.ntmps52
  go_wp2_with fail
  go_ret
  exact ⟨rfl, rfl⟩

/-- The holders' cells at index i of block g. -/
def At (w : World) (g i : Nat) (x : Hd) : Prop := w.cell? ⟨g, i * 2, none⟩ = some (.int .i64 x.id) ∧ w.cell? ⟨g, i * 2 + 1, none⟩ = some (.int .i64 x.fr)

set_option maxHeartbeats 1000000 in
theorem hless_ok (g n cap i j : Nat) (x y : Hd) (w : World) (hi : i < n) (hj : j < n) (hx : At w g i x) (hy : At w g j y) :
    Calls Try.prog 53 #[.slice (some ⟨g, 0, none⟩) n cap, .int .i64 i, .int .i64 j] w fun e w' => e = .returned (.bool (lessB x y)) ∧ ∃ q, w' = w.drewN q := by
  obtain ⟨k1, k2⟩ := hx
  obtain ⟨k3, k4⟩ := hy
  have z0 : (0 : Int) ≤ (i : Int) := by omega
  have z1 : (i : Int) < (n : Int) := by omega
  have z2 : (0 : Int) ≤ (j : Int) := by omega
  have z3 : (j : Int) < (n : Int) := by omega
  unfold lessB
  by_cases h1 : y.fr < x.fr
  · rw [if_pos h1]
    have d1 : decide (y.fr < x.fr) = true := decide_eq_true h1
    clear h1
    go_enter Try.func53, Try.ntmps53
    go_wp2_with fail
    go_quiet (fail)
    go_wp2_with fail
    go_ret
    exact ⟨rfl, _, rfl⟩
  · rw [if_neg h1]
    have d1 : decide (y.fr < x.fr) = false := decide_eq_false h1
    by_cases h2 : x.fr = y.fr
    · rw [if_pos h2]
      have d2 : (x.fr == y.fr) = true := by rw [beq_iff_eq]; exact h2
      clear h1 h2
      go_enter Try.func53, Try.ntmps53
      go_wp2_with fail
      go_quiet (fail)
      go_wp2_with fail
      go_ret
      exact ⟨rfl, _, rfl⟩
    · rw [if_neg h2]
      have d2 : (x.fr == y.fr) = false := by rw [beq_eq_false_iff_ne]; exact h2
      clear h1 h2
      go_enter Try.func53, Try.ntmps53
      go_wp2_with fail
      go_quiet (fail)
      go_wp2_with fail
      go_ret
      exact ⟨rfl, _, rfl⟩

set_option maxHeartbeats 1000000 in
theorem hswap_ok (g n cap i j : Nat) (x y : Hd) (w : World) (cs : Array Value) (hb : Blk w g 41 cs) (hi : i < n) (hj : j < n) (hx : At w g i x) (hy : At w g j y) :
    Calls Try.prog 54 #[.slice (some ⟨g, 0, none⟩) n cap, .int .i64 i, .int .i64 j] w fun e w' => (∃ v, e = .returned v) ∧
      Blk w' g 41 ((((cs.setIfInBounds (i * 2) (.int .i64 y.id)).setIfInBounds (i * 2 + 1) (.int .i64 y.fr)).setIfInBounds (j * 2) (.int .i64 x.id)).setIfInBounds (j * 2 + 1) (.int .i64 x.fr)) ∧ Only (fun k => k = g) w w' := by
  obtain ⟨k1, k2⟩ := hx
  obtain ⟨k3, k4⟩ := hy
  have f1 := hb.frozen (i * 2)
  have f2 := hb.frozen (i * 2 + 1)
  have f3 := hb.frozen (j * 2)
  have f4 := hb.frozen (j * 2 + 1)
  have z0 : (0 : Int) ≤ (i : Int) := by omega
  have z1 : (i : Int) < (n : Int) := by omega
  have z2 : (0 : Int) ≤ (j : Int) := by omega
  have z3 : (j : Int) < (n : Int) := by omega
  have s3 : j * 2 < cs.size := (Array.getElem?_eq_some_iff.1 ((hb.cell _).symm.trans k3)).1
  have s4 : j * 2 + 1 < cs.size := (Array.getElem?_eq_some_iff.1 ((hb.cell _).symm.trans k4)).1
  obtain ⟨u0, k5⟩ : ∃ u, (w.setCell ⟨g, i * 2, none⟩ (.int .i64 y.id)).cell? ⟨g, j * 2, none⟩ = some u :=
    ⟨_, ((hb.set_ (i * 2) (.int .i64 y.id)).cell (j * 2)).trans (Array.getElem?_eq_getElem (by simpa using s3))⟩
  obtain ⟨u1, k6⟩ : ∃ u, ((w.setCell ⟨g, i * 2, none⟩ (.int .i64 y.id)).setCell ⟨g, i * 2 + 1, none⟩ (.int .i64 y.fr)).cell? ⟨g, j * 2 + 1, none⟩ = some u :=
    ⟨_, (((hb.set_ (i * 2) (.int .i64 y.id)).set_ (i * 2 + 1) (.int .i64 y.fr)).cell (j * 2 + 1)).trans (Array.getElem?_eq_getElem (by simpa using s4))⟩
  have HB := Lib.hid hb
  clear hb
  go_enter Try.func54, Try.ntmps54
  go_wp2_with fail
  go_region
  go_end0
  refine ⟨⟨_, rfl⟩, (((HB.out.set_ _ _).set_ _ _).set_ _ _).set_ _ _, ?_⟩
  exact (((((Only.refl (fun k => k = g) w).setOf rfl _).setOf rfl _).setOf rfl _).setOf rfl _).drew
end Go.Proofs.Ytflljldmcidhgaa
