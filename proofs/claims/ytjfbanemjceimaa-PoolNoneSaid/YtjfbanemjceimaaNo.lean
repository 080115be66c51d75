/- The law PoolNone: the walk. -/
import Derived.Test.YtjfbanemjceimaaPlO
namespace Go.Proofs.Ytjfbanemjceimaa
open Go.RowKit Go.Maps
set_option linter.unusedVariables false
set_option linter.unusedSimpArgs false
set_option linter.unnecessarySimpa false

/-- A pointer to no pool: nil, or one that nobody made. -/
def Bare (w : World) (p : Option Addr) : Prop := p = none ∨ ∃ b, p = some ⟨b, 0, none⟩ ∧ Blk w b 30 #[.slice none 0 0, .slice none 0 0, .map none, .int .i64 0]

theorem Bare.keep {w w' : World} {p : Option Addr} (h : Bare w p) (hk : Kept w w') : Bare w' p := by
  rcases h with h | ⟨b, h, hb⟩
  · exact .inl h
  · exact .inr ⟨b, h, hk.blk hb (fun f => f)⟩

theorem Bare.no {w : World} {p : Option Addr} (h : Bare w p) : NoPool w (.pointer p) := by
  rcases h with rfl | ⟨b, rfl, hb⟩
  · exact pnone_nil w
  · exact pnone_bare b _ _ _ w hb

set_option maxRecDepth 100000 in
set_option maxHeartbeats 2000000 in
theorem none_calls (x0 x1 x2 x3 : Int) (w : World) : Calls Try.prog 3 #[.agg #[.int .i64 x0, .int .i64 x1, .int .i64 x2, .int .i64 x3]] w fun e w' => e = .returned (.bool true) ∧ Kept w w' := by
  go_enter Try.func3, Try.ntmps3
  go_wp2_with fail
  have I0 := ((Blk.new w 23 #[.int .i64 x0, .int .i64 x1, .int .i64 x2, .int .i64 x3]).alloc (.cells #[.slice none 0 0, .slice none 0 0, .map none, .int .i64 0] 30)).alloc (.cells #[.pointer none, .pointer (some ⟨w.heap.size + 1, 0, none⟩)] 24)
  have S0 := (Blk.new (w.alloc (.cells #[.int .i64 x0, .int .i64 x1, .int .i64 x2, .int .i64 x3] 23)) 30 #[.slice none 0 0, .slice none 0 0, .map none, .int .i64 0]).alloc (.cells #[.pointer none, .pointer (some ⟨w.heap.size + 1, 0, none⟩)] 24)
  have A0 := Blk.new ((w.alloc (.cells #[.int .i64 x0, .int .i64 x1, .int .i64 x2, .int .i64 x3] 23)).alloc (.cells #[.slice none 0 0, .slice none 0 0, .map none, .int .i64 0] 30)) 24 #[.pointer none, .pointer (some ⟨w.heap.size + 1, 0, none⟩)]
  have K0 : Kept w (((w.alloc (.cells #[.int .i64 x0, .int .i64 x1, .int .i64 x2, .int .i64 x3] 23)).alloc (.cells #[.slice none 0 0, .slice none 0 0, .map none, .int .i64 0] 30)).alloc (.cells #[.pointer none, .pointer (some ⟨w.heap.size + 1, 0, none⟩)] 24)) := (((Only.refl _ w).alloc _).alloc _).alloc _
  simp only [World.size_alloc] at S0 A0
  generalize (((w.alloc (.cells #[.int .i64 x0, .int .i64 x1, .int .i64 x2, .int .i64 x3] 23)).alloc (.cells #[.slice none 0 0, .slice none 0 0, .map none, .int .i64 0] 30)).alloc (.cells #[.pointer none, .pointer (some ⟨w.heap.size + 1, 0, none⟩)] 24)) = W0 at *
  go_loopw [4] (fun v wr => ∃ k : Nat, v = .int .i64 k ∧ k ≤ 2 ∧ Kept W0 wr) (fun v _ => 2 - (intOf v).toNat)
  case atStart => exact ⟨0, rfl, by omega, Only.refl _ _⟩
  case round =>
    obtain ⟨k, rfl, hk, hkp⟩ := hrel
    have IW := hkp.blk I0 (fun f => f)
    have SW := hkp.blk S0 (fun f => f)
    have AW := hkp.blk A0 (fun f => f)
    have HKP := Lib.hid hkp
    by_cases h2 : k < 2
    · obtain ⟨p, hp, hbare⟩ : ∃ p, wr.cell? ⟨w.heap.size + 1 + 1, k, none⟩ = some (.pointer p) ∧ Bare wr p := by
        have hc := AW.cell k
        rcases (show k = 0 ∨ k = 1 by omega) with rfl | rfl
        · exact ⟨none, by simpa using hc, .inl rfl⟩
        · exact ⟨_, by simpa using hc, .inr ⟨_, rfl, SW⟩⟩
      have HB := Lib.hid hbare
      have HN := Lib.hid hbare.no
      have HQ := Lib.hid (fun n => (hbare.keep ((Only.refl (fun _ => False) wr).drewN n)).no)
      have e1 := IW.cell 1
      have e2 := IW.cell 2
      have e3 := IW.cell 3
      simp at e1 e2 e3
      clear AW SW IW hbare hkp
      go_wp2_with (first | (go_at_call 8; refine (no_acq HN.out _).mono ?_; rintro e w' ⟨rfl, rfl⟩) | (go_at_call 9; refine (no_recl HN.out _).mono ?_; rintro e w' ⟨rfl, rfl⟩) | (go_at_call 10; refine (no_mem HN.out _ _).mono ?_; rintro e w' ⟨rfl, rfl⟩) | (go_at_call 11; refine (no_look HN.out _ _).mono ?_; rintro e w' ⟨rfl, rfl⟩) | (go_at_call 12; refine (no_ret HN.out _ _).mono ?_; rintro e w' ⟨rfl, rfl⟩) | (go_at_call 13; refine (no_rel HN.out _ _).mono ?_; rintro e w' ⟨rfl, rfl⟩) | fail "no arm")
      go_quiet ((first | (go_at_call 14; exact quiet_left (no_own (HQ.out _) _)) | (go_at_call 15; exact quiet_left (no_hand (HQ.out _) _)) | (go_at_call 16; exact quiet_left (no_held (HQ.out _) _)) | (go_at_call 17; exact quiet_left (no_free (HQ.out _))) | fail "no arm"))
      go_wp2_with fail
      go_roundw
      case rel => exact ⟨k + 1, by go_num, by omega, HKP.out.drewN _⟩
      case measure => simp [intOf]; omega
    · clear AW SW IW hkp
      go_wp2_with fail
      refine (pawake_ok _).mono ?_
      rintro e w1 ⟨rfl, hk1⟩
      go_wp2_with fail
      go_ret
      exact ⟨rfl, (K0.trans HKP.out).trans hk1⟩
end Go.Proofs.Ytjfbanemjceimaa
