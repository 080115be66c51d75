/- Outboxes that nobody made. -/
import Derived.Test.YtoohkcboidamnaaObI
import Derived.Test.YtoohkcboidamnaaObQ
namespace Go.Proofs.Ytoohkcboidamnaa
open Go.RowKit
set_option linter.unusedVariables false

/-- A pointer to no outbox: nil, or one that nobody made. -/
def Bare (w : World) (p : Option Addr) : Prop := p = none ∨ ∃ b, p = some ⟨b, 0, none⟩ ∧ Blk w b 49 #[.slice none 0 0, .int .i64 0, .int .i64 0]

theorem Bare.keep {w w' : World} {p : Option Addr} (h : Bare w p) (hk : Kept w w') : Bare w' p := by
  rcases h with h | ⟨b, h, hb⟩
  · exact .inl h
  · exact .inr ⟨b, h, hk.blk hb (fun f => f)⟩
theorem Bare.alloc {w : World} {p : Option Addr} (h : Bare w p) (o : Obj) : Bare (w.alloc o) p := h.keep ((Only.refl _ w).alloc o)

theorem none_p (p : Option Addr) (w : World) (h : Bare w p) : Calls Try.prog 28 #[.pointer p] w fun e w' => e = .returned (.bool true) ∧ w = w' := by
  rcases h with rfl | ⟨b, rfl, hb⟩
  · exact none_nil w
  · exact none_bare b 0 0 w hb

theorem all_p (p : Option Addr) (w : World) (h : Bare w p) : Calls Try.prog 24 #[.pointer p] w fun e w' => e = .returned (.slice none 0 0) ∧ w = w' := by
  rcases h with rfl | ⟨b, rfl, hb⟩
  · exact all_nil w
  · exact all_bare b 0 0 w hb

theorem clear_p (p : Option Addr) (w : World) (h : Bare w p) : Calls Try.prog 19 #[.pointer p] w fun e w' => e = .returned (.slice none 0 0) ∧ w = w' := by
  rcases h with rfl | ⟨b, rfl, hb⟩
  · exact clear_nil w
  · exact clear_bare b 0 0 w hb

theorem len_p (p : Option Addr) (w : World) (h : Bare w p) : Calls Try.prog 12 #[.pointer p] w fun e w' => e = .returned (.int .i64 0) ∧ w = w' := by
  go_enter Try.func12, Try.ntmps12
  go_wp2_with (go_at_call 28; refine (none_p p _ h).mono ?_; rintro e w' ⟨rfl, rfl⟩)
  go_ret
  exact ⟨rfl, rfl⟩

theorem room_p (p : Option Addr) (w : World) (h : Bare w p) : Calls Try.prog 25 #[.pointer p] w fun e w' => e = .returned (.int .i64 0) ∧ w = w' := by
  go_enter Try.func25, Try.ntmps25
  go_wp2_with (go_at_call 28; refine (none_p p _ h).mono ?_; rintro e w' ⟨rfl, rfl⟩)
  go_ret
  exact ⟨rfl, rfl⟩

theorem ever_p (p : Option Addr) (w : World) (h : Bare w p) : Calls Try.prog 15 #[.pointer p] w fun e w' => e = .returned (.int .i64 0) ∧ w = w' := by
  go_enter Try.func15, Try.ntmps15
  go_wp2_with (go_at_call 28; refine (none_p p _ h).mono ?_; rintro e w' ⟨rfl, rfl⟩)
  go_ret
  exact ⟨rfl, rfl⟩

theorem push_p (p : Option Addr) (x0 x1 x2 x3 : Int) (w : World) (h : Bare w p) : Calls Try.prog 11 #[.pointer p, .agg #[.int .i64 x0, .int .i64 x1, .int .i64 x2, .int .i64 x3]] w fun e w' => e = .returned (.int .i64 1) ∧ Kept w w' := by
  go_enter Try.func11, Try.ntmps11
  go_wp2_with (go_at_call 28; refine (none_p p _ (h.alloc _)).mono ?_; rintro e w' ⟨rfl, rfl⟩)
  go_ret
  exact ⟨rfl, (Only.refl _ _).alloc _⟩

theorem pop_p (p : Option Addr) (w : World) (h : Bare w p) : Calls Try.prog 13 #[.pointer p] w fun e w' => e = .returned (.tuple #[.agg #[.int .i64 0, .int .i64 0, .int .i64 0, .int .i64 0], .int .i64 1]) ∧ Kept w w' := by
  go_enter Try.func13, Try.ntmps13
  go_wp2_with (go_at_call 28; refine (none_p p _ (h.alloc _)).mono ?_; rintro e w' ⟨rfl, rfl⟩)
  refine bodyPost_ret (v := .tuple #[.agg #[.int .i64 0, .int .i64 0, .int .i64 0, .int .i64 0], .int .i64 1]) (by simp [results, Try.results13, go_sem]) rfl ⟨rfl, ?_⟩
  repeat' (first | with_reducible exact Only.refl _ _ | with_reducible refine Only.alloc ?_ _ | with_reducible refine Only.drewN ?_ _ | (with_reducible refine Only.setNew ?_ (Nat.le_refl _) _))

set_option maxHeartbeats 2000000 in
theorem none_calls (x0 x1 x2 x3 : Int) (w : World) : Calls Try.prog 5 #[.agg #[.int .i64 x0, .int .i64 x1, .int .i64 x2, .int .i64 x3]] w fun e w' => e = .returned (.bool true) ∧ Kept w w' := by
  go_enter Try.func5, Try.ntmps5
  go_wp2_with fail
  have I0 := ((Blk.new w 30 #[.int .i64 x0, .int .i64 x1, .int .i64 x2, .int .i64 x3]).alloc (.cells #[.slice none 0 0, .int .i64 0, .int .i64 0] 49)).alloc (.cells #[.pointer none, .pointer (some ⟨w.heap.size + 1, 0, none⟩)] 24)
  have S0 := (Blk.new (w.alloc (.cells #[.int .i64 x0, .int .i64 x1, .int .i64 x2, .int .i64 x3] 30)) 49 #[.slice none 0 0, .int .i64 0, .int .i64 0]).alloc (.cells #[.pointer none, .pointer (some ⟨w.heap.size + 1, 0, none⟩)] 24)
  have A0 := Blk.new ((w.alloc (.cells #[.int .i64 x0, .int .i64 x1, .int .i64 x2, .int .i64 x3] 30)).alloc (.cells #[.slice none 0 0, .int .i64 0, .int .i64 0] 49)) 24 #[.pointer none, .pointer (some ⟨w.heap.size + 1, 0, none⟩)]
  have K0 : Kept w (((w.alloc (.cells #[.int .i64 x0, .int .i64 x1, .int .i64 x2, .int .i64 x3] 30)).alloc (.cells #[.slice none 0 0, .int .i64 0, .int .i64 0] 49)).alloc (.cells #[.pointer none, .pointer (some ⟨w.heap.size + 1, 0, none⟩)] 24)) := (((Only.refl _ w).alloc _).alloc _).alloc _
  simp only [World.size_alloc] at S0 A0
  generalize (((w.alloc (.cells #[.int .i64 x0, .int .i64 x1, .int .i64 x2, .int .i64 x3] 30)).alloc (.cells #[.slice none 0 0, .int .i64 0, .int .i64 0] 49)).alloc (.cells #[.pointer none, .pointer (some ⟨w.heap.size + 1, 0, none⟩)] 24)) = W0 at *
  go_loopw [4] (fun v wr => ∃ k : Nat, v = .int .i64 k ∧ k ≤ 2 ∧ Kept W0 wr) (fun v _ => 2 - (intOf v).toNat)
  case atStart => exact ⟨0, rfl, by omega, Only.refl _ _⟩
  case round =>
    obtain ⟨k, rfl, hk, hkp⟩ := hrel
    have IW := hkp.blk I0 (fun f => f)
    have SW := hkp.blk S0 (fun f => f)
    have AW := hkp.blk A0 (fun f => f)
    by_cases h2 : k < 2
    · obtain ⟨p, hp, hbare⟩ : ∃ p, wr.cell? ⟨w.heap.size + 1 + 1, k, none⟩ = some (.pointer p) ∧ Bare wr p := by
        have hc := AW.cell k
        rcases (show k = 0 ∨ k = 1 by omega) with rfl | rfl
        · exact ⟨none, by simpa using hc, .inl rfl⟩
        · exact ⟨_, by simpa using hc, .inr ⟨_, rfl, SW⟩⟩
      have HB := Lib.hid hbare
      clear AW SW hbare
      go_wp2_with fail
      refine (pop_p p _ HB.out).mono ?_
      rintro e w1 ⟨rfl, hk1⟩
      have I1 := Lib.hid ((hk1.blk IW (fun f => f)).alloc (.cells #[.int .i64 0, .int .i64 0, .int .i64 0, .int .i64 0] 30))
      have B1 := Lib.hid ((HB.out.keep hk1).alloc (.cells #[.int .i64 0, .int .i64 0, .int .i64 0, .int .i64 0] 30))
      have e0 := I1.out.cell 0
      have e1 := I1.out.cell 1
      have e2 := I1.out.cell 2
      have e3 := I1.out.cell 3
      simp at e0 e1 e2 e3
      clear IW
      go_wp2_with fail
      refine (push_p p _ _ _ _ _ B1.out).mono ?_
      rintro e w2 ⟨rfl, hk2⟩
      have P2 := hk2.blk (Blk.new w1 30 #[.int .i64 0, .int .i64 0, .int .i64 0, .int .i64 0]) (fun f => f)
      have g0 := P2.cell 0
      have g1 := P2.cell 1
      have g2 := P2.cell 2
      have g3 := P2.cell 3
      simp at g0 g1 g2 g3
      have B2 := Lib.hid (B1.out.keep hk2)
      have KK := Lib.hid ((hkp.trans (hk1.alloc _)).trans hk2)
      clear P2
      go_wp2_with (first | (go_at_call 24; refine (all_p p _ B2.out).mono ?_; rintro e w' ⟨rfl, rfl⟩) | (go_at_call 19; refine (clear_p p _ B2.out).mono ?_; rintro e w' ⟨rfl, rfl⟩) | (go_at_call 12; refine (len_p p _ B2.out).mono ?_; rintro e w' ⟨rfl, rfl⟩) | (go_at_call 25; refine (room_p p _ B2.out).mono ?_; rintro e w' ⟨rfl, rfl⟩) | (go_at_call 15; refine (ever_p p _ B2.out).mono ?_; rintro e w' ⟨rfl, rfl⟩))
      go_roundw
      case rel => exact ⟨k + 1, by go_num, by omega, KK.out⟩
      case measure => simp [intOf]; omega
    · go_wp2_with fail
      refine (awake_calls _).mono ?_
      rintro e w1 ⟨rfl, hk1⟩
      go_wp2_with fail
      go_ret
      exact ⟨rfl, (K0.trans hkp).trans hk1⟩

end Go.Proofs.Ytoohkcboidamnaa
