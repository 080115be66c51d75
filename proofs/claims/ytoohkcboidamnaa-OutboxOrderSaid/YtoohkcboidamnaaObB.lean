/- more -/
import Derived.Test.YtoohkcboidamnaaObA
namespace Go.Proofs.Ytoohkcboidamnaa
open Go.RowKit
set_option linter.unusedVariables false
set_option linter.unusedSimpArgs false
set_option linter.unnecessarySimpa false

theorem ever_made (b r m : Nat) (c g : Int) (w : World) (hm : 1 ≤ m) (hb : Blk w b 49 #[.slice (some ⟨r, 0, none⟩) m m, .int .i64 c, .int .i64 g]) :
    Calls Try.prog 15 #[.pointer (some ⟨b, 0, none⟩)] w fun e w' => e = .returned (.int .i64 c) ∧ w = w' := by
  have H := Lib.hid hb
  have k1 := hb.cell 1
  clear hb
  simp at k1
  go_enter Try.func15, Try.ntmps15
  go_wp2_with (go_at_call 28; refine (none_made b r m c g _ hm H.out).mono ?_; rintro e w' ⟨rfl, rfl⟩)
  go_ret
  exact ⟨rfl, rfl⟩

theorem room_made (b r m : Nat) (c g : Int) (w : World) (hm : 1 ≤ m) (hm2 : m ≤ 1000) (hb : Blk w b 49 #[.slice (some ⟨r, 0, none⟩) m m, .int .i64 c, .int .i64 g])
    (h1 : 0 ≤ g) (h2 : g ≤ c) (h3 : c ≤ 4611686018427387904) (h4 : c - g ≤ m) :
    Calls Try.prog 25 #[.pointer (some ⟨b, 0, none⟩)] w fun e w' => e = .returned (.int .i64 (m - (c - g))) ∧ ∃ n, w' = w.drewN n := by
  have H := Lib.hid hb
  have k1 := hb.cell 0
  clear hb
  simp at k1
  go_enter Try.func25, Try.ntmps25
  go_wp2_with (go_at_call 28; refine (none_made b r m c g _ hm H.out).mono ?_; rintro e w' ⟨rfl, rfl⟩)
  go_quiet ((go_at_call 12; exact Calls.quiet_of (len_made b r m c g _ hm (H.out.drewN _) h1 h2 h3)))
  go_wp2
  go_ret
  exact ⟨rfl, _, rfl⟩

theorem place_made (b r m : Nat) (c g : Int) (n : Nat) (w : World) (hm : 1 ≤ m) (hm2 : m ≤ 1000) (hn : n ≤ 4611686018427387904) (hb : Blk w b 49 #[.slice (some ⟨r, 0, none⟩) m m, .int .i64 c, .int .i64 g]) :
    Calls Try.prog 29 #[.pointer (some ⟨b, 0, none⟩), .int .i64 n] w fun e w' => e = .returned (.pointer (some ⟨r, n % m * 4, none⟩)) ∧ ∃ n, w' = w.drewN n := by
  have H := Lib.hid hb
  have k0 := hb.cell 0
  clear hb
  simp at k0
  have h5 : n % m < m := Nat.mod_lt _ (by omega)
  go_enter Try.func29, Try.ntmps29
  go_wp2
  go_quiet (fail)
  go_wp2
  go_ret
  exact ⟨rfl, _, rfl⟩

end Go.Proofs.Ytoohkcboidamnaa
