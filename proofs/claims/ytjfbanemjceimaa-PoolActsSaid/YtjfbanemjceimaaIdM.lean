/- Which method an idle list's interface calls. -/
import Derived.Test.YtjfbanemjceimaaIdA
namespace Go.Proofs.Ytjfbanemjceimaa
open Go.RowKit
set_option linter.unusedVariables false
set_option linter.unusedSimpArgs false
set_option linter.unnecessarySimpa false

theorem v27 (p o : Nat) (w : World) (v : Value) (h : w.cell? ⟨p, o, none⟩ = some v) : (loadVar 27 ⟨p, o, none⟩).run Try.prog w = .ok v w := by
  unfold loadVar
  simp [go_sem, h]
theorem nilchk (p o : Nat) (s : String) (w : World) : (Builtin.ssaWrapNilChk_ #[62] 62 #[.pointer (some ⟨p, o, none⟩), strVal "", strVal s]).run Try.prog w = .ok (.pointer (some ⟨p, o, none⟩)) w := by rfl
theorem t62len : Try.t62.methods.find? (fun x => x.name == "Len") = some ⟨"Len", 40, #[], some (65, false)⟩ := by kernel_rfl
theorem t62less : Try.t62.methods.find? (fun x => x.name == "Less") = some ⟨"Less", 84, #[], some (66, false)⟩ := by kernel_rfl
theorem t62swap : Try.t62.methods.find? (fun x => x.name == "Swap") = some ⟨"Swap", 66, #[], some (67, false)⟩ := by kernel_rfl
theorem m_len (p o : Nat) (w : World) (v : Value) (h : w.cell? ⟨p, o, none⟩ = some v) : (method 203 62 (.pointer (some ⟨p, o, none⟩)) "Len").run Try.prog w = .ok (65, v) w := by
  have h27 := v27 p o w v h
  unfold method
  simp [go_sem, t62len, follow, receiverAt, Place.get, h27, h, nilchk, asAddr]
theorem m_less (p o : Nat) (w : World) (v : Value) (h : w.cell? ⟨p, o, none⟩ = some v) : (method 203 62 (.pointer (some ⟨p, o, none⟩)) "Less").run Try.prog w = .ok (66, v) w := by
  have h27 := v27 p o w v h
  unfold method
  simp [go_sem, t62less, follow, receiverAt, Place.get, h27, h, nilchk, asAddr]
theorem m_swap (p o : Nat) (w : World) (v : Value) (h : w.cell? ⟨p, o, none⟩ = some v) : (method 203 62 (.pointer (some ⟨p, o, none⟩)) "Swap").run Try.prog w = .ok (67, v) w := by
  have h27 := v27 p o w v h
  unfold method
  simp [go_sem, t62swap, follow, receiverAt, Place.get, h27, h, nilchk, asAddr]
end Go.Proofs.Ytjfbanemjceimaa
