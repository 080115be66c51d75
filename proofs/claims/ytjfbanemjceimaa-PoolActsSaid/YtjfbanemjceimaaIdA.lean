/- The free frames' own methods: Len, Less, Swap. -/
import Derived.Test.YtjfbanemjceimaaProg
import Derived.Test.YtjfbanemjceimaaHeap
namespace Go.Proofs.Ytjfbanemjceimaa
open Go.RowKit
set_option linter.unusedVariables false
set_option linter.unusedSimpArgs false
set_option linter.unnecessarySimpa false

theorem ilen_ok (A : Option Addr) (n cap : Nat) (w : World) : Calls Try.prog 65 #[.slice A n cap] w fun e w' => e = .returned (.int .i64 n) ∧ w = w' := by
  go_enter Try.func65, Try.ntmps65
  go_wp2_with fail
  go_ret
  exact ⟨rfl, rfl⟩

theorem iless_ok (g n cap i j : Nat) (x y : Int) (w : World) (cs : Array Value) (hb : Blk w g 3 cs) (hi : i < n) (hj : j < n) (hx : cs[i]? = some (.int .i64 x)) (hy : cs[j]? = some (.int .i64 y)) :
    Calls Try.prog 66 #[.slice (some ⟨g, 0, none⟩) n cap, .int .i64 i, .int .i64 j] w fun e w' => e = .returned (.bool (decide (x < y))) ∧ ∃ q, w' = w.drewN q := by
  have k1 := (hb.cell i).trans hx
  have k2 := (hb.cell j).trans hy
  have z0 : (0 : Int) ≤ (i : Int) := by omega
  have z1 : (i : Int) < (n : Int) := by omega
  have z2 : (0 : Int) ≤ (j : Int) := by omega
  have z3 : (j : Int) < (n : Int) := by omega
  clear hx hy hb
  go_enter Try.func66, Try.ntmps66
  go_wp2_with fail
  go_quiet (fail)
  go_wp2_with fail
  go_ret
  exact ⟨rfl, _, rfl⟩

theorem iswap_ok (g n cap i j : Nat) (x y : Int) (w : World) (cs : Array Value) (hb : Blk w g 3 cs) (hi : i < n) (hj : j < n) (hx : cs[i]? = some (.int .i64 x)) (hy : cs[j]? = some (.int .i64 y)) :
    Calls Try.prog 67 #[.slice (some ⟨g, 0, none⟩) n cap, .int .i64 i, .int .i64 j] w fun e w' => (∃ v, e = .returned v) ∧ Blk w' g 3 ((cs.setIfInBounds i (.int .i64 y)).setIfInBounds j (.int .i64 x)) ∧ Only (fun k => k = g) w w' := by
  have k1 := (hb.cell i).trans hx
  have k2 := (hb.cell j).trans hy
  have f1 := hb.frozen i
  have f2 := hb.frozen j
  have z0 : (0 : Int) ≤ (i : Int) := by omega
  have z1 : (i : Int) < (n : Int) := by omega
  have z2 : (0 : Int) ≤ (j : Int) := by omega
  have z3 : (j : Int) < (n : Int) := by omega
  obtain ⟨u, k3⟩ : ∃ u, (w.setCell ⟨g, i, none⟩ (.int .i64 y)).cell? ⟨g, j, none⟩ = some u := by
    have hj' := (Array.getElem?_eq_some_iff.1 hy).1
    refine ⟨_, ((hb.set_ i (.int .i64 y)).cell j).trans (Array.getElem?_eq_getElem (by simpa using hj'))⟩
  have HB := Lib.hid hb
  clear hx hy hb
  go_enter Try.func67, Try.ntmps67
  go_wp2_with fail
  go_region
  go_wp2_with fail
  go_end0
  refine ⟨⟨_, rfl⟩, (HB.out.set_ i _).set_ j _, ?_⟩
  exact (((Only.refl (fun k => k = g) w).setOf rfl _).setOf rfl _).drew
end Go.Proofs.Ytjfbanemjceimaa
