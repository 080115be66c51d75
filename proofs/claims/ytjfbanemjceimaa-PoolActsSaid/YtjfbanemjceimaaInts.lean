/- A list of ints that came in. -/
import Derived.Test.YtjfbanemjceimaaProg
import Derived.Test.YtjfbanemjceimaaBase
import Derived.Test.YtjfbanemjceimaaPost
namespace Go.Proofs.Ytjfbanemjceimaa
open Go.ChangeShapes Go.WideShapes Go.ChangeAt Go.RowKit Go.Joins
set_option linter.unusedVariables false
set_option linter.unusedSimpArgs false
set_option linter.unnecessarySimpa false

/-- A slice at address A reads as the ints xs. -/
def Ints (w : World) (A : Option Addr) (xs : List Int) : Prop := xs ≠ [] → ∃ g o, A = some ⟨g, o, none⟩ ∧ g < w.heap.size ∧ ∀ i, i < xs.length → w.cell? ⟨g, o + i, none⟩ = some (.int .i64 (xs.getD i 0))

theorem Ints.kept {w w' : World} {A : Option Addr} {xs : List Int} (h : Ints w A xs) (hk : Kept w w') : Ints w' A xs := fun hne => by
  obtain ⟨g, o, rfl, hg, hc⟩ := h hne
  exact ⟨g, o, rfl, Nat.lt_of_lt_of_le hg hk.size, fun i hi => kept_cell hk (hc i hi)⟩

theorem cells3 : Try.prog.cellsOf 3 = 1 := by kernel_rfl

section
variable {H : Type} {enc : TypeId × Value → H} {W : World}

theorem ints_of {base : Nat} {v : Value} {d : DataW H} {p : List MemPlace} (hv : Value.okWide Try.prog W .any base 26 v) (h : DataW.Trod enc Try.prog W 0 (fun _ => true) true 26 v d p) :
    ∃ A n cap xs, v = .slice A n cap ∧ xs.length = n ∧ n ≤ 9223372036854775807 ∧ Ints W A xs ∧ ∀ a ∈ xs, (-9223372036854775808 : Int) ≤ a ∧ a ≤ 9223372036854775807 := by
  obtain ⟨A, n, cap, rfl, hn, hr⟩ := open_rows (k := 1) Try.underlying26 cells3 (by omega) hv h
  rcases Nat.eq_zero_or_pos n with h0 | h0
  · subst h0
    exact ⟨A, 0, cap, [], rfl, rfl, hn, fun hne => absurd rfl hne, by simp⟩
  · obtain ⟨b, off, rfl, hb, hrow⟩ := hr h0
    have hex : ∀ i, i < n → ∃ a : Int, W.cell? ⟨b, off + i, none⟩ = some (.int .i64 a) ∧ (Lit.int .i64 a).wf = true := by
      intro i hi
      obtain ⟨cs, m, x, hl, ht, hc⟩ := hrow i hi
      match cs, hl with
      | [c0], _ =>
        obtain ⟨a, e0, _, w0⟩ := DataW.trod_int Try.underlying3 ht
        simp at e0
        subst e0
        exact ⟨a, by have := hc 0 _ rfl; simpa using this, w0⟩
    obtain ⟨f, hf⟩ := Deep.choose_lt hex
    refine ⟨_, n, cap, (List.range n).map f, rfl, by simp, hn, fun _ => ⟨b, off, rfl, hb, fun i hi => ?_⟩, ?_⟩
    · have hi' : i < n := by simpa using hi
      rw [(hf i hi').1]
      simp [List.getD, hi']
    · intro a ha
      simp at ha
      obtain ⟨i, hi, rfl⟩ := ha
      exact bounds_i64 (hf i hi).2
end
end Go.Proofs.Ytjfbanemjceimaa
