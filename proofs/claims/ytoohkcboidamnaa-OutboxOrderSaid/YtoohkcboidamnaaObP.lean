/- Len, Room, Ever, Pop, New over an outbox in memory. -/
import Derived.Test.YtoohkcboidamnaaObM
namespace Go.Proofs.Ytoohkcboidamnaa
open Go.RowKit
set_option linter.unusedVariables false
set_option linter.unusedSimpArgs false
set_option linter.unnecessarySimpa false

theorem len_ob (b r m c g : Nat) (l : List It) (ring : Array Value) (w : World) (h : OB w b r m c g l ring) (hc : c ≤ 1073741824) :
    Calls Try.prog 12 #[.pointer (some ⟨b, 0, none⟩)] w fun e w' => e = .returned (.int .i64 l.length) ∧ ∃ n, w' = w.drewN n := by
  have hcame := h.came
  refine (len_made b r m c g w h.lo h.box (by omega) (by omega) (by omega)).mono ?_
  rintro e w' ⟨he, hw⟩
  exact ⟨by rw [he, show (c : Int) - (g : Int) = (l.length : Int) from by omega], hw⟩

theorem room_ob (b r m c g : Nat) (l : List It) (ring : Array Value) (w : World) (h : OB w b r m c g l ring) (hc : c ≤ 1073741824) :
    Calls Try.prog 25 #[.pointer (some ⟨b, 0, none⟩)] w fun e w' => e = .returned (.int .i64 ((m : Int) - l.length)) ∧ ∃ n, w' = w.drewN n := by
  have hcame := h.came
  have hf := h.fits
  refine (room_made b r m c g w h.lo h.hi h.box (by omega) (by omega) (by omega) (by omega)).mono ?_
  rintro e w' ⟨he, hw⟩
  exact ⟨by rw [he, show (c : Int) - (g : Int) = (l.length : Int) from by omega], hw⟩

theorem ever_ob (b r m c g : Nat) (l : List It) (ring : Array Value) (w : World) (h : OB w b r m c g l ring) :
    Calls Try.prog 15 #[.pointer (some ⟨b, 0, none⟩)] w fun e w' => e = .returned (.int .i64 c) ∧ w = w' :=
  ever_made b r m c g w h.lo h.box

set_option maxHeartbeats 400000 in
theorem pop_empty (b r m c g : Nat) (ring : Array Value) (w : World) (h : OB w b r m c g [] ring) (hc : c ≤ 1073741824) :
    Calls Try.prog 13 #[.pointer (some ⟨b, 0, none⟩)] w fun e w' => e = .returned (.tuple #[.agg #[.int .i64 0, .int .i64 0, .int .i64 0, .int .i64 0], .int .i64 16]) ∧ Kept w w' := by
  have hlo := h.lo
  have H := Lib.hid h
  clear h
  have hz : (((([] : List It).length : Nat) : Int) == 0) = true := rfl
  go_enter Try.func13, Try.ntmps13
  go_wp2_with (first | (go_at_call 28; refine (none_made b r m c g _ hlo (H.out.alloc _).box).mono ?_; rintro e w' ⟨rfl, rfl⟩) | (go_at_call 12; refine (len_ob b r m c g [] ring _ (H.out.alloc _) hc).mono ?_; rintro e w' ⟨rfl, n1, rfl⟩))
  refine bodyPost_ret (v := .tuple #[.agg #[.int .i64 0, .int .i64 0, .int .i64 0, .int .i64 0], .int .i64 16]) (by simp [results, Try.results13, go_sem]) rfl ⟨rfl, ?_⟩
  repeat' (first | with_reducible exact Only.refl _ _ | with_reducible refine Only.alloc ?_ _ | with_reducible refine Only.drewN ?_ _ | (with_reducible refine Only.setNew ?_ (Nat.le_refl _) _))

set_option maxHeartbeats 1000000 in
theorem pop_ok (b r m c g : Nat) (x : It) (l : List It) (ring : Array Value) (w : World) (h : OB w b r m c g (x :: l) ring) (hc : c ≤ 1073741824) :
    Calls Try.prog 13 #[.pointer (some ⟨b, 0, none⟩)] w fun e w' => e = .returned (.tuple #[.agg #[.int .i64 x.a, .int .i64 x.b, .int .i64 x.c, .int .i64 x.d], .int .i64 0]) ∧
      OB w' b r m c (g + 1) l ring ∧ Only (fun k => k = b) w w' := by
  have hlo := h.lo
  have hhi := h.hi
  have hcame := h.came
  have hlb := h.box.lt
  have hlr := h.row.lt
  have hbr := h.ne_
  have e2 := h.box.cell 2
  have z2 := h.box.frozen 2
  obtain ⟨f0, f1, f2, f3⟩ := h.at_ 0 x rfl
  simp only [Nat.add_zero] at f0 f1 f2 f3
  rw [← h.row.cell] at f0 f1 f2 f3
  simp at e2
  have hz : (((x :: l).length : Int) == 0) = false := by rw [beq_eq_false_iff_ne]; simp; omega
  have hg : g ≤ 1073741824 := by simp at hcame; omega
  have hgm : g % m < m := Nat.mod_lt _ (by omega)
  have H := Lib.hid h
  have HC := Lib.hid hcame
  clear h hcame
  go_enter Try.func13, Try.ntmps13
  go_wp2_with (first | (go_at_call 28; refine (none_made b r m c g _ hlo (H.out.alloc _).box).mono ?_; rintro e w' ⟨rfl, rfl⟩) | (go_at_call 12; refine (len_ob b r m c g (x :: l) ring _ (H.out.alloc _) hc).mono ?_; rintro e w' ⟨rfl, n1, rfl⟩) | (go_at_call 29; refine (place_made b r m c g g _ hlo hhi (by omega) ((H.out.alloc _).drewN _).box).mono ?_; rintro e w' ⟨rfl, n2, rfl⟩))
  have hn1 : b ≠ w.heap.size := Nat.ne_of_lt hlb
  have hn2 : r ≠ w.heap.size := Nat.ne_of_lt hlr
  refine bodyPost_ret (v := .tuple #[.agg #[.int .i64 x.a, .int .i64 x.b, .int .i64 x.c, .int .i64 x.d], .int .i64 0]) (by simp [results, Try.results13, go_sem]) rfl ⟨rfl, ⟨?_, ?_, H.out.size, ?_, ?_, hlo, hhi, H.out.at_.pop⟩, ?_⟩
  · exact ((((((((H.out.box.alloc _).drewN _).set_ 2 _).far' hn1 _).far' hn1 _).far' hn1 _).far' hn1 _).alloc _)
  · exact ((((((((H.out.row.alloc _).drewN _).far' hbr.symm _).far' hn2 _).far' hn2 _).far' hn2 _).far' hn2 _).alloc _)
  · have := HC.out; simp at this; omega
  · have := H.out.fits; simp at this; omega
  · repeat' (first | with_reducible exact Only.refl _ _ | with_reducible refine Only.alloc ?_ _ | with_reducible refine Only.drewN ?_ _ | (with_reducible refine Only.setNew ?_ (Nat.le_refl _) _) | (with_reducible refine Only.setOf ?_ (by exact rfl) _))

end Go.Proofs.Ytoohkcboidamnaa
