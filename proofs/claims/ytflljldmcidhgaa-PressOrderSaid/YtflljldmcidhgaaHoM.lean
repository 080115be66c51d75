/- Which method a holders' list's interface calls. -/
import Derived.Test.YtflljldmcidhgaaHoA
namespace Go.Proofs.Ytflljldmcidhgaa
open Go.RowKit
set_option linter.unusedVariables false
set_option linter.unusedSimpArgs false
set_option linter.unnecessarySimpa false

theorem v50 (p o : Nat) (w : World) (v : Value) (h : w.cell? ⟨p, o, none⟩ = some v) : (loadVar 50 ⟨p, o, none⟩).run Try.prog w = .ok v w := by
  unfold loadVar
  simp [go_sem, h]
theorem nilchk (p o : Nat) (s : String) (w : World) : (Builtin.ssaWrapNilChk_ #[52] 52 #[.pointer (some ⟨p, o, none⟩), strVal "", strVal s]).run Try.prog w = .ok (.pointer (some ⟨p, o, none⟩)) w := by rfl
theorem t52len : Try.t52.methods.find? (fun x => x.name == "Len") = some ⟨"Len", 59, #[], some (52, false)⟩ := by kernel_rfl
theorem t52less : Try.t52.methods.find? (fun x => x.name == "Less") = some ⟨"Less", 49, #[], some (53, false)⟩ := by kernel_rfl
theorem t52swap : Try.t52.methods.find? (fun x => x.name == "Swap") = some ⟨"Swap", 60, #[], some (54, false)⟩ := by kernel_rfl
theorem m_len (p o : Nat) (w : World) (v : Value) (h : w.cell? ⟨p, o, none⟩ = some v) : (method 179 52 (.pointer (some ⟨p, o, none⟩)) "Len").run Try.prog w = .ok (52, v) w := by
  have h50 := v50 p o w v h
  unfold method
  simp [go_sem, t52len, follow, receiverAt, Place.get, h50, h, nilchk, asAddr]
theorem m_less (p o : Nat) (w : World) (v : Value) (h : w.cell? ⟨p, o, none⟩ = some v) : (method 179 52 (.pointer (some ⟨p, o, none⟩)) "Less").run Try.prog w = .ok (53, v) w := by
  have h50 := v50 p o w v h
  unfold method
  simp [go_sem, t52less, follow, receiverAt, Place.get, h50, h, nilchk, asAddr]
theorem m_swap (p o : Nat) (w : World) (v : Value) (h : w.cell? ⟨p, o, none⟩ = some v) : (method 179 52 (.pointer (some ⟨p, o, none⟩)) "Swap").run Try.prog w = .ok (54, v) w := by
  have h50 := v50 p o w v h
  unfold method
  simp [go_sem, t52swap, follow, receiverAt, Place.get, h50, h, nilchk, asAddr]
end Go.Proofs.Ytflljldmcidhgaa
