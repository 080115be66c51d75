/- push -/
import Derived.Test.YtoohkcboidamnaaObB
import Derived.StillTailTactics
import Derived.Deep.RegionHeld3
namespace Go.Proofs.Ytoohkcboidamnaa
open Go.RowKit
set_option linter.unusedVariables false
set_option linter.unusedSimpArgs false
set_option linter.unnecessarySimpa false

/-- Four cells written. -/
def put4 (ring : Array Value) (k : Nat) (x0 x1 x2 x3 : Int) : Array Value :=
  (((ring.setIfInBounds k (.int .i64 x0)).setIfInBounds (k + 1) (.int .i64 x1)).setIfInBounds (k + 2) (.int .i64 x2)).setIfInBounds (k + 3) (.int .i64 x3)

set_option maxHeartbeats 400000 in
theorem push_made (b r m : Nat) (c g : Nat) (x0 x1 x2 x3 : Int) (ring : Array Value) (w : World) (hm : 1 ≤ m) (hm2 : m ≤ 1000) (hb : Blk w b 49 #[.slice (some ⟨r, 0, none⟩) m m, .int .i64 c, .int .i64 g])
    (hr : Blk w r 30 ring) (hs : ring.size = m * 4)
    (h2 : g ≤ c) (h3 : c ≤ 1073741824) (h4 : c - g < m) :
    Calls Try.prog 11 #[.pointer (some ⟨b, 0, none⟩), .agg #[.int .i64 x0, .int .i64 x1, .int .i64 x2, .int .i64 x3]] w fun e w' => e = .returned (.int .i64 0) ∧ Blk w' b 49 #[.slice (some ⟨r, 0, none⟩) m m, .int .i64 (c + 1), .int .i64 g] ∧ Blk w' r 30 (put4 ring (c % m * 4) x0 x1 x2 x3) ∧ Only (fun k => k = b ∨ k = r) w w' := by
  have hbr : b ≠ r := hb.ne_ hr (by decide)
  have H := Lib.hid hb
  have HR := Lib.hid hr
  have HS := Lib.hid hs
  have k1 := hb.cell 1
  have kf := hb.frozen 1
  have lb := hb.lt
  have lr := hr.lt
  clear hb hr hs
  simp at k1
  go_enter Try.func11, Try.ntmps11
  go_wp2_with (first | (go_at_call 28; refine (none_made b r m c g _ hm (H.out.alloc _)).mono ?_; rintro e w' ⟨rfl, rfl⟩) | (go_at_call 25; refine (room_made b r m c g _ hm hm2 (H.out.alloc _) (by omega) (by omega) (by omega) (by omega)).mono ?_; rintro e w' ⟨rfl, n1, rfl⟩))
  have B1 : Blk ((w.alloc (.cells #[.int .i64 x0, .int .i64 x1, .int .i64 x2, .int .i64 x3] 30)).drewN n1) b 49 #[.slice (some ⟨r, 0, none⟩) m m, .int .i64 c, .int .i64 g] := (H.out.alloc _).drewN _
  have R1 : Blk ((w.alloc (.cells #[.int .i64 x0, .int .i64 x1, .int .i64 x2, .int .i64 x3] 30)).drewN n1) r 30 ring := (HR.out.alloc _).drewN _
  have X1 : Blk ((w.alloc (.cells #[.int .i64 x0, .int .i64 x1, .int .i64 x2, .int .i64 x3] 30)).drewN n1) w.heap.size 30 #[.int .i64 x0, .int .i64 x1, .int .i64 x2, .int .i64 x3] := (Blk.new w _ _).drewN _
  have O1 : Only (fun k => k = b ∨ k = r) w ((w.alloc (.cells #[.int .i64 x0, .int .i64 x1, .int .i64 x2, .int .i64 x3] 30)).drewN n1) := ((Only.refl _ w).alloc _).drewN _
  generalize ((w.alloc (.cells #[.int .i64 x0, .int .i64 x1, .int .i64 x2, .int .i64 x3] 30)).drewN n1) = W at *
  have k1 := B1.cell 1
  have e0 := X1.cell 0
  have e1 := X1.cell 1
  have e2 := X1.cell 2
  have e3 := X1.cell 3
  simp at k1 e0 e1 e2 e3
  have hlt : c % m < m := Nat.mod_lt _ (by omega)
  have hs := HS.out
  obtain ⟨v0, f0⟩ : ∃ v, W.cell? ⟨r, c % m * 4, none⟩ = some v := ⟨_, (R1.cell _).trans (Array.getElem?_eq_getElem (by omega))⟩
  obtain ⟨v1, f1⟩ : ∃ v, W.cell? ⟨r, c % m * 4 + 1, none⟩ = some v := ⟨_, (R1.cell _).trans (Array.getElem?_eq_getElem (by omega))⟩
  obtain ⟨v2, f2⟩ : ∃ v, W.cell? ⟨r, c % m * 4 + 2, none⟩ = some v := ⟨_, (R1.cell _).trans (Array.getElem?_eq_getElem (by omega))⟩
  obtain ⟨v3, f3⟩ : ∃ v, W.cell? ⟨r, c % m * 4 + 3, none⟩ = some v := ⟨_, (R1.cell _).trans (Array.getElem?_eq_getElem (by omega))⟩
  have z0 := R1.frozen (c % m * 4)
  have z1 := R1.frozen (c % m * 4 + 1)
  have z2 := R1.frozen (c % m * 4 + 2)
  have z3 := R1.frozen (c % m * 4 + 3)
  have HB := Lib.hid B1
  have HR1 := Lib.hid R1
  clear hs B1 R1 X1
  go_region_with (go_at_call 29; refine (place_made b r m c g c _ hm hm2 (by omega) ?_).mono ?_; exact HB.out.drew; rintro e w' ⟨rfl, n2, rfl⟩)
  all_goals
    have B2 := ((((HB.out.drewN (1 + n2)).far (p := ⟨r, c % m * 4, none⟩) hbr (.int .i64 x0)).far (p := ⟨r, c % m * 4 + 1, none⟩) hbr (.int .i64 x1)).far (p := ⟨r, c % m * 4 + 2, none⟩) hbr (.int .i64 x2)).far (p := ⟨r, c % m * 4 + 3, none⟩) hbr (.int .i64 x3)
    have R2 := ((((HR1.out.drewN (1 + n2)).set_ (c % m * 4) (.int .i64 x0)).set_ (c % m * 4 + 1) (.int .i64 x1)).set_ (c % m * 4 + 2) (.int .i64 x2)).set_ (c % m * 4 + 3) (.int .i64 x3)
    have O2 := ((((O1.drewN (1 + n2)).setCell (p := ⟨r, c % m * 4, none⟩) (fun _ => .inr rfl) (.int .i64 x0)).setCell (p := ⟨r, c % m * 4 + 1, none⟩) (fun _ => .inr rfl) (.int .i64 x1)).setCell (p := ⟨r, c % m * 4 + 2, none⟩) (fun _ => .inr rfl) (.int .i64 x2)).setCell (p := ⟨r, c % m * 4 + 3, none⟩) (fun _ => .inr rfl) (.int .i64 x3)
    clear e0 e1 e2 e3 f0 f1 f2 f3 z0 z1 z2 z3 HB HR1 O1 k1
    generalize (((((W.drewN (1 + n2)).setCell ⟨r, c % m * 4, none⟩ (.int .i64 x0)).setCell ⟨r, c % m * 4 + 1, none⟩ (.int .i64 x1)).setCell ⟨r, c % m * 4 + 2, none⟩ (.int .i64 x2)).setCell ⟨r, c % m * 4 + 3, none⟩ (.int .i64 x3)) = W2 at *
    have k1 := B2.cell 1
    have kf := B2.frozen 1
    simp at k1
    have HB2 := Lib.hid B2
    have HR2 := Lib.hid R2
    have HO2 := Lib.hid O2
    clear B2 R2 O2
    go_wp2
    go_ret
    exact ⟨rfl, by simpa using HB2.out.set_ 1 (.int .i64 (c + 1)), HR2.out.far (p := ⟨b, 1, none⟩) hbr.symm _, HO2.out.setCell (p := ⟨b, 1, none⟩) (fun _ => .inl rfl) _⟩

end Go.Proofs.Ytoohkcboidamnaa
