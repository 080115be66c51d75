/- The outbox's reading methods. -/
import Derived.Test.YtoohkcboidamnaaProg
import Derived.Test.YtoohkcboidamnaaBase
namespace Go.Proofs.Ytoohkcboidamnaa
open Go.RowKit
set_option linter.unusedVariables false
set_option linter.unusedSimpArgs false
set_option linter.unnecessarySimpa false

theorem none_made (b r m : Nat) (c g : Int) (w : World) (hm : 1 ≤ m) (hb : Blk w b 49 #[.slice (some ⟨r, 0, none⟩) m m, .int .i64 c, .int .i64 g]) :
    Calls Try.prog 28 #[.pointer (some ⟨b, 0, none⟩)] w fun e w' => e = .returned (.bool false) ∧ w = w' := by
  have h0 := hb.cell 0
  have hz : ((m : Int) == 0) = false := beq_eq_false_iff_ne.2 (by omega)
  clear hb
  simp at h0
  go_enter Try.func28, Try.ntmps28
  go_wp2
  go_ret
  exact ⟨rfl, rfl⟩

theorem none_nil (w : World) :
    Calls Try.prog 28 #[.pointer none] w fun e w' => e = .returned (.bool true) ∧ w = w' := by
  go_enter Try.func28, Try.ntmps28
  go_wp2
  go_ret
  exact ⟨rfl, rfl⟩

theorem none_bare (b : Nat) (c g : Int) (w : World) (hb : Blk w b 49 #[.slice none 0 0, .int .i64 c, .int .i64 g]) :
    Calls Try.prog 28 #[.pointer (some ⟨b, 0, none⟩)] w fun e w' => e = .returned (.bool true) ∧ w = w' := by
  have h0 := hb.cell 0
  clear hb
  simp at h0
  go_enter Try.func28, Try.ntmps28
  go_wp2
  go_ret
  exact ⟨rfl, rfl⟩

theorem len_made (b r m : Nat) (c g : Int) (w : World) (hm : 1 ≤ m) (hb : Blk w b 49 #[.slice (some ⟨r, 0, none⟩) m m, .int .i64 c, .int .i64 g])
    (h1 : 0 ≤ g) (h2 : g ≤ c) (h3 : c ≤ 4611686018427387904) :
    Calls Try.prog 12 #[.pointer (some ⟨b, 0, none⟩)] w fun e w' => e = .returned (.int .i64 (c - g)) ∧ ∃ n, w' = w.drewN n := by
  have H := Lib.hid hb
  have k1 := hb.cell 1
  have k2 := hb.cell 2
  clear hb
  simp at k1 k2
  go_enter Try.func12, Try.ntmps12
  go_wp2_with (go_at_call 28; refine (none_made b r m c g _ hm H.out).mono ?_; rintro e w' ⟨rfl, rfl⟩)
  go_quiet (fail)
  go_wp2
  go_ret
  exact ⟨rfl, _, rfl⟩

end Go.Proofs.Ytoohkcboidamnaa
