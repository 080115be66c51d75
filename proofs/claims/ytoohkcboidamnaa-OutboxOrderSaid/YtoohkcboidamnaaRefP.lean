/- The document's outbox: Pop, Clear. -/
import Derived.Test.YtoohkcboidamnaaRef
namespace Go.Proofs.Ytoohkcboidamnaa
open Go.RowKit
set_option linter.unusedVariables false
set_option linter.unusedSimpArgs false
set_option linter.unnecessarySimpa false

theorem rpop_empty (b lo m c cap : Nat) (A : Option Addr) (w : World) (h : RB w b lo m c A cap []) :
    Calls Try.prog 18 #[.pointer (some ⟨b, 0, none⟩)] w fun e w' => e = .returned (.tuple #[.agg #[.int .i64 0, .int .i64 0, .int .i64 0, .int .i64 0], .int .i64 16]) ∧ Kept w w' := by
  have k1 := h.box.cell 1
  have hlt := h.box.lt
  simp at k1
  clear h
  go_enter Try.func18, Try.ntmps18
  go_wp2
  refine bodyPost_ret (v := .tuple #[.agg #[.int .i64 0, .int .i64 0, .int .i64 0, .int .i64 0], .int .i64 16]) (by simp [results, Try.results18, go_sem]) rfl ⟨rfl, ?_⟩
  repeat' (first | with_reducible exact Only.refl _ _ | with_reducible refine Only.alloc ?_ _ | (with_reducible refine Only.setNew ?_ (Nat.le_refl _) _))

set_option maxHeartbeats 1000000 in
theorem rpop_ok (b lo m c cap : Nat) (A : Option Addr) (x : It) (l : List It) (w : World) (h : RB w b lo m c A cap (x :: l)) :
    Calls Try.prog 18 #[.pointer (some ⟨b, 0, none⟩)] w fun e w' => e = .returned (.tuple #[.agg #[.int .i64 x.a, .int .i64 x.b, .int .i64 x.c, .int .i64 x.d], .int .i64 0]) ∧
      ∃ A' cap', RB w' b lo m c A' cap' l ∧ Only (fun k => k = b) w w' := by
  have hlo := h.lo_
  have hcap := h.row.1
  simp at hcap
  rcases h.row.2 with ⟨_, h0⟩ | ⟨g, off, cells, rfl, hg, hG, hs, hat⟩
  · omega
  have hbg : b ≠ g := h.box.ne_ hG (by decide)
  have k1 := h.box.cell 1
  have z1 := h.box.frozen 1
  have hlt := h.box.lt
  have hltg := hG.lt
  simp at k1
  obtain ⟨a0, a1, a2, a3⟩ := hat 0 x rfl
  simp only [Nat.zero_mul, Nat.add_zero] at a0 a1 a2 a3
  rw [← hG.cell] at a0 a1 a2 a3
  have H := Lib.hid h
  have HG := Lib.hid hG
  have HAT := Lib.hid hat
  clear h hG hat
  have hn1 : b ≠ w.heap.size := Nat.ne_of_lt hlt
  have hn2 : g ≠ w.heap.size := Nat.ne_of_lt hltg
  by_cases h1 : cap = 1
  · subst h1
    obtain rfl : l = [] := List.eq_nil_of_length_eq_zero (by omega)
    go_enter Try.func18, Try.ntmps18
    go_wp2
    refine bodyPost_ret (v := .tuple #[.agg #[.int .i64 x.a, .int .i64 x.b, .int .i64 x.c, .int .i64 x.d], .int .i64 0]) (by simp [results, Try.results18, go_sem]) rfl ⟨rfl, some ⟨g, off, none⟩, 0, ⟨?_, ?_, hlo, by simp, H.out.hi⟩, ?_⟩
    · exact ((H.out.box.set_ 1 _).alloc _).alloc _
    · exact ⟨by simp, .inr ⟨g, off, cells, rfl, hg, ((HG.out.far' hbg.symm _).alloc _).alloc _, by omega, fun i y hy => by simp at hy⟩⟩
    · repeat' (first | with_reducible exact Only.refl _ _ | with_reducible refine Only.alloc ?_ _ | (with_reducible refine Only.setOf ?_ (by exact rfl) _))
  · have h1' : ((cap == 1) = false) := by simp [h1]
    go_enter Try.func18, Try.ntmps18
    go_wp2
    refine bodyPost_ret (v := .tuple #[.agg #[.int .i64 x.a, .int .i64 x.b, .int .i64 x.c, .int .i64 x.d], .int .i64 0]) (by simp [results, Try.results18, go_sem]) rfl ⟨rfl, some ⟨g, off + 4, none⟩, cap - 1, ⟨?_, ?_, hlo, ?_, H.out.hi⟩, ?_⟩
    · exact ((H.out.box.set_ 1 _).alloc _).alloc _
    · refine ⟨by omega, .inr ⟨g, off + 4, cells, rfl, hg, ((HG.out.far' hbg.symm _).alloc _).alloc _, by omega, fun i y hy => ?_⟩⟩
      have := HAT.out (i + 1) y (by simpa using hy)
      rwa [show off + (i + 1) * 4 = off + 4 + i * 4 from by omega] at this
    · have := H.out.fits; simp at this; omega
    · repeat' (first | with_reducible exact Only.refl _ _ | with_reducible refine Only.alloc ?_ _ | (with_reducible refine Only.setOf ?_ (by exact rfl) _))

theorem rclear_ok (b lo m c cap : Nat) (A : Option Addr) (its : List It) (w : World) (h : RB w b lo m c A cap its) :
    Calls Try.prog 21 #[.pointer (some ⟨b, 0, none⟩)] w fun e w' => e = .returned (.slice A its.length cap) ∧ RB w' b lo m c none 0 [] ∧ Only (fun k => k = b) w w' := by
  have k1 := h.box.cell 1
  have z1 := h.box.frozen 1
  have hlt := h.box.lt
  simp at k1
  have H := Lib.hid h
  clear h
  go_enter Try.func21, Try.ntmps21
  go_wp2
  go_ret
  refine ⟨rfl, ⟨H.out.box.set_ 1 _, ⟨by simp, .inl ⟨rfl, rfl⟩⟩, H.out.lo_, by simp, H.out.hi⟩, ?_⟩
  exact Only.setOf (S := fun k => k = b) (Only.refl _ _) (by exact rfl) _

theorem RB.sl_far {w w' : World} {b lo m c cap : Nat} {A : Option Addr} {its : List It} (h : RB w b lo m c A cap its) (ho : Only (fun k => k = b) w w') : Sl w' A its := by
  have hr : RS w' lo A cap its := by
    refine ⟨h.row.1, ?_⟩
    rcases h.row.2 with h2 | ⟨g, off, cells, h1, h2, h3, h4⟩
    · exact .inl h2
    · exact .inr ⟨g, off, cells, h1, h2, ho.blk h3 (h3.ne_ h.box (by decide)), h4⟩
  exact hr.sl

/-- The two outboxes, side by side: the same room, the same items, as many came. -/
structure Both (w : World) (b r m c g : Nat) (ring : Array Value) (b' : Nat) (A : Option Addr) (cap lo : Nat) (its : List It) : Prop where
  ob : OB w b r m c g its ring
  rb : RB w b' lo m c A cap its
  hb : b < lo
  hr : r < lo
  hlo : lo ≤ w.heap.size

theorem Both.kept {w w' : World} {b r m c g b' cap lo : Nat} {ring : Array Value} {A : Option Addr} {its : List It} (h : Both w b r m c g ring b' A cap lo its) (ho : Kept w w') : Both w' b r m c g ring b' A cap lo its :=
  ⟨h.ob.keep ho (fun f => f) (fun f => f), h.rb.keep ho (fun _ _ _ f => f), h.hb, h.hr, Nat.le_trans h.hlo ho.size⟩

theorem Both.later {w w' : World} {b r m c g b' cap lo B : Nat} {ring : Array Value} {A : Option Addr} {its : List It} (h : Both w b r m c g ring b' A cap lo its) (ho : Only (fun k => B ≤ k) w w') (hB : w.heap.size ≤ B) : Both w' b r m c g ring b' A cap lo its :=
  h.kept ⟨ho.os, ho.tape, ho.output, ho.size, fun k hk _ => ho.block k hk (by omega)⟩

set_option maxHeartbeats 1000000 in
theorem alike_calls (b r m c g b' cap lo : Nat) (ring : Array Value) (A : Option Addr) (its : List It) (w : World) (h : Both w b r m c g ring b' A cap lo its) (hc : c ≤ 1073741824) :
    Calls Try.prog 23 #[.pointer (some ⟨b, 0, none⟩), .pointer (some ⟨b', 0, none⟩)] w fun e w' => e = .returned (.bool true) ∧ Kept w w' := by
  have H := Lib.hid h
  clear h
  go_enter Try.func23, Try.ntmps23
  go_wp2_with fail
  refine (all_calls b r m c g its ring hc _ H.out.ob).mono ?_
  rintro e w1 ⟨A1, c1, rfl, hr1, hk1, _⟩
  have H1 := Lib.hid (H.out.kept hk1)
  have R1 := Lib.hid hr1
  have K1 := Lib.hid hk1
  have hfit := H.out.ob.fits
  have hhi := H.out.ob.hi
  have k0 := H1.out.rb.box.cell 0
  have k1 := H1.out.rb.box.cell 1
  have k2 := H1.out.rb.box.cell 2
  simp at k0 k1 k2
  have S1 := Lib.hid (Sl.of_own hr1)
  have S2 := Lib.hid H1.out.rb.row.sl
  clear hr1 hk1
  go_wp2_with fail
  go_quiet (first | (go_at_call 20; exact Calls.quiet_of (same_items A1 A its.length c1 cap its _ rfl (by omega) (S1.out.drewN _) (S2.out.drewN _))) | (go_at_call 12; exact Calls.quiet_of (len_ob b r m c g its ring _ (H1.out.ob.drewN _) hc)) | (go_at_call 25; exact Calls.quiet_of (room_ob b r m c g its ring _ (H1.out.ob.drewN _) hc)) | (go_at_call 15; exact Calls.quiet_of_same ((ever_ob b r m c g its ring _ (H1.out.ob.drewN _)).mono (fun _ _ h => ⟨h.1, h.2.symm⟩))))
  have R2 : Hid ((w1.drewN nq).ownsRow w.heap.size 30 4 (.slice A1 its.length c1) its.length (its.flatMap It.cells)) := R1
  have K2 := Lib.hid (K1.out.drewN nq)
  clear k0 k1 k2
  generalize w1.drewN nq = w2 at *
  go_wp2_with fail
  refine (over_items w.heap.size A1 its.length c1 _ _ (by omega) R2.out).mono ?_
  rintro e w3 ⟨rfl, hk3⟩
  have HK3 := Lib.hid hk3
  clear hk3
  go_wp2_with fail
  go_ret
  exact ⟨rfl, K2.out.trans' HK3.out (fun k hk hw => by omega)⟩

end Go.Proofs.Ytoohkcboidamnaa
