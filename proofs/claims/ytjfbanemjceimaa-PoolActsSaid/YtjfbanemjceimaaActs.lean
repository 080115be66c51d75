/- How a list of acts that came in is read. -/
import Derived.Test.YtjfbanemjceimaaInts
import Derived.Test.YtjfbanemjceimaaPlN
namespace Go.Proofs.Ytjfbanemjceimaa
open Go.ChangeShapes Go.WideShapes Go.ChangeAt Go.RowKit Go.Joins
set_option linter.unusedVariables false
set_option linter.unusedSimpArgs false
set_option linter.unnecessarySimpa false

/-- An act. -/
structure Ac where
  kind : Int
  frame : Int
  owner : Int
  n : Int

instance : Inhabited Ac := ⟨⟨0, 0, 0, 0⟩⟩

def In64 (a : Int) : Prop := (-9223372036854775808 : Int) ≤ a ∧ a ≤ 9223372036854775807

def Ac.In (a : Ac) : Prop := In64 a.kind ∧ In64 a.frame ∧ In64 a.owner ∧ In64 a.n

def Ac.cells (a : Ac) : List Value := [.int .i64 a.kind, .int .i64 a.frame, .int .i64 a.owner, .int .i64 a.n]

/-- The list at A reads as these acts. -/
def Acts (w : World) (A : Option Addr) (acts : List Ac) : Prop :=
  acts ≠ [] → ∃ g off, A = some ⟨g, off, none⟩ ∧ g < w.heap.size ∧ ∀ i a, acts[i]? = some a → w.cell? ⟨g, off + i * 4, none⟩ = some (.int .i64 a.kind) ∧
    w.cell? ⟨g, off + i * 4 + 1, none⟩ = some (.int .i64 a.frame) ∧ w.cell? ⟨g, off + i * 4 + 2, none⟩ = some (.int .i64 a.owner) ∧ w.cell? ⟨g, off + i * 4 + 3, none⟩ = some (.int .i64 a.n)

theorem cells23 : Try.prog.cellsOf 23 = 4 := by kernel_rfl

section
variable {H : Type} {enc : TypeId × Value → H} {W : World}

theorem act_cells {n : Nat} {cs : List Value} {x : DataW H × List MemPlace} (h : DataW.trod enc Try.prog W 0 (fun _ => true) true n 23 cs = some x) (hl : cs.length = 4) :
    ∃ a : Ac, cs = a.cells ∧ a.In := by
  obtain ⟨y0, y1, y2, y3, m, _, _, h0, h1, h2, h3⟩ := trod_struct4 Try.underlying23 h
  match cs, hl with
  | [c0, c1, c2, c3], _ =>
    simp [cells3] at h0 h1 h2 h3
    obtain ⟨x0, e0, _, w0⟩ := DataW.trod_int Try.underlying3 h0
    obtain ⟨x1, e1, _, w1⟩ := DataW.trod_int Try.underlying3 h1
    obtain ⟨x2, e2, _, w2⟩ := DataW.trod_int Try.underlying3 h2
    obtain ⟨x3, e3, _, w3⟩ := DataW.trod_int Try.underlying3 h3
    simp at e0 e1 e2 e3
    subst e0 e1 e2 e3
    exact ⟨⟨x0, x1, x2, x3⟩, rfl, bounds_i64 w0, bounds_i64 w1, bounds_i64 w2, bounds_i64 w3⟩

theorem acts_of {base : Nat} {v : Value} {d : DataW H} {p : List MemPlace} (hv : Value.okWide Try.prog W .any base 52 v) (h : DataW.Trod enc Try.prog W 0 (fun _ => true) true 52 v d p) :
    ∃ A n cap acts, v = .slice A n cap ∧ acts.length = n ∧ n ≤ 9223372036854775807 ∧ Acts W A acts ∧ ∀ a ∈ acts, a.In := by
  obtain ⟨A, n, cap, rfl, hn, hr⟩ := open_rows (k := 4) Try.underlying52 cells23 (by omega) hv h
  rcases Nat.eq_zero_or_pos n with h0 | h0
  · subst h0
    exact ⟨A, 0, cap, [], rfl, rfl, hn, fun hne => absurd rfl hne, by simp⟩
  · obtain ⟨b, off, rfl, hb, hrow⟩ := hr h0
    have hex : ∀ i, i < n → ∃ a : Ac, (∀ j u, a.cells[j]? = some u → W.cell? ⟨b, off + i * 4 + j, none⟩ = some u) ∧ a.In := by
      intro i hi
      obtain ⟨cs, m, x, hl, ht, hc⟩ := hrow i hi
      obtain ⟨a, rfl, hw⟩ := act_cells ht hl
      exact ⟨a, hc, hw⟩
    obtain ⟨f, hf⟩ := Deep.choose_lt hex
    refine ⟨_, n, cap, (List.range n).map f, rfl, by simp, hn, fun _ => ⟨b, off, rfl, hb, fun i a ha => ?_⟩, ?_⟩
    · have hi : i < n := by
        have := (List.getElem?_eq_some_iff.1 ha).1
        simpa using this
      have : a = f i := by simp [hi] at ha; exact ha.symm
      subst this
      obtain ⟨hc, _⟩ := hf i hi
      exact ⟨by simpa using hc 0 _ rfl, hc 1 _ rfl, hc 2 _ rfl, hc 3 _ rfl⟩
    · intro a ha
      simp at ha
      obtain ⟨i, hi, rfl⟩ := ha
      exact (hf i hi).2
end
end Go.Proofs.Ytjfbanemjceimaa
