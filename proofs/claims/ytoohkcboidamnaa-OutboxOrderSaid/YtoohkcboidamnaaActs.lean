/- How a list of calls that came in is read. -/
import Derived.Test.YtoohkcboidamnaaPost
import Derived.Test.YtoohkcboidamnaaScr
namespace Go.Proofs.Ytoohkcboidamnaa
open Go.ChangeShapes Go.WideShapes Go.ChangeAt Go.RowKit Go.Joins
set_option linter.unusedVariables false
set_option linter.unusedSimpArgs false
set_option linter.unnecessarySimpa false

theorem cells41 : Try.prog.cellsOf 41 = 5 := by kernel_rfl
theorem cells30 : Try.prog.cellsOf 30 = 4 := by kernel_rfl
theorem cells3 : Try.prog.cellsOf 3 = 1 := by kernel_rfl

instance : Inhabited Ac := ⟨⟨0, ⟨0, 0, 0, 0⟩⟩⟩

section
variable {H : Type} {enc : TypeId × Value → H} {W : World}

theorem item_cells {n : Nat} {cs : List Value} {x : DataW H × List MemPlace} (h : DataW.trod enc Try.prog W 0 (fun _ => true) true n 30 cs = some x) (hl : cs.length = 4) :
    ∃ it : It, cs = it.cells := by
  obtain ⟨y0, y1, y2, y3, m, _, _, h0, h1, h2, h3⟩ := trod_struct4 Try.underlying30 h
  match cs, hl with
  | [c0, c1, c2, c3], _ =>
    simp [cells3] at h0 h1 h2 h3
    obtain ⟨x0, e0, _, w0⟩ := DataW.trod_int Try.underlying3 h0
    obtain ⟨x1, e1, _, w1⟩ := DataW.trod_int Try.underlying3 h1
    obtain ⟨x2, e2, _, w2⟩ := DataW.trod_int Try.underlying3 h2
    obtain ⟨x3, e3, _, w3⟩ := DataW.trod_int Try.underlying3 h3
    simp at e0 e1 e2 e3
    subst e0 e1 e2 e3
    exact ⟨⟨x0, x1, x2, x3⟩, rfl⟩

theorem act_cells {n : Nat} {cs : List Value} {x : DataW H × List MemPlace} (h : DataW.trod enc Try.prog W 0 (fun _ => true) true n 41 cs = some x) (hl : cs.length = 5) :
    ∃ a : Ac, cs = .int .i64 a.kind :: a.it.cells ∧ (Lit.int .i64 a.kind).wf = true := by
  obtain ⟨y0, y1, m, _, _, h0, h1⟩ := trod_struct2 Try.underlying41 h
  match cs, hl with
  | [c0, c1, c2, c3, c4], _ =>
    simp [cells3, cells30] at h0 h1
    obtain ⟨k, e0, _, w0⟩ := DataW.trod_int Try.underlying3 h0
    simp at e0
    subst e0
    obtain ⟨it, hit⟩ := item_cells h1 rfl
    exact ⟨⟨k, it⟩, by rw [hit], w0⟩

theorem acts_of {base : Nat} {v : Value} {d : DataW H} {p : List MemPlace} (hv : Value.okWide Try.prog W .any base 36 v) (h : DataW.Trod enc Try.prog W 0 (fun _ => true) true 36 v d p) :
    ∃ A n cap acts, v = .slice A n cap ∧ acts.length = n ∧ n ≤ 9223372036854775807 ∧ Acts W A acts ∧ ∀ a ∈ acts, (Lit.int .i64 a.kind).wf = true := by
  obtain ⟨A, n, cap, rfl, hn, hr⟩ := open_rows (k := 5) Try.underlying36 cells41 (by omega) hv h
  rcases Nat.eq_zero_or_pos n with h0 | h0
  · subst h0
    exact ⟨A, 0, cap, [], rfl, rfl, hn, fun hne => absurd rfl hne, by simp⟩
  · obtain ⟨b, off, rfl, hb, hrow⟩ := hr h0
    have hex : ∀ i, i < n → ∃ a : Ac, (∀ j u, (Value.int .i64 a.kind :: a.it.cells)[j]? = some u → W.cell? ⟨b, off + i * 5 + j, none⟩ = some u) ∧ (Lit.int .i64 a.kind).wf = true := by
      intro i hi
      obtain ⟨cs, m, x, hl, ht, hc⟩ := hrow i hi
      obtain ⟨a, rfl, hw⟩ := act_cells ht hl
      exact ⟨a, hc, hw⟩
    obtain ⟨f, hf⟩ := Deep.choose_lt hex
    refine ⟨_, n, cap, (List.range n).map f, rfl, by simp, hn, fun _ => ⟨b, off, rfl, hb, fun i a ha => ?_⟩, ?_⟩
    · have hi : i < n := by
        have := (List.getElem?_eq_some_iff.1 ha).1
        simpa using this
      have : a = f i := by simp [hi] at ha; exact ha.symm
      subst this
      obtain ⟨hc, _⟩ := hf i hi
      exact ⟨by simpa using hc 0 _ rfl, hc 1 _ rfl, hc 2 _ rfl, hc 3 _ rfl, hc 4 _ rfl⟩
    · intro a ha
      simp at ha
      obtain ⟨i, hi, rfl⟩ := ha
      exact (hf i hi).2
end
end Go.Proofs.Ytoohkcboidamnaa
