/- What Acquire answers, as a function of the frames. -/
import Derived.Test.YtjfbanemjceimaaPlN
namespace Go.Proofs.Ytjfbanemjceimaa
open Go.RowKit Go.Maps
set_option linter.unusedVariables false
set_option linter.unusedSimpArgs false
set_option linter.unnecessarySimpa false

/-- The least free frame. -/
def first (fs : List Fr) : Option Nat := fs.findIdx? (fun x => x.own == 0)

def taken (fs : List Fr) (n : Nat) (o : Int) : List Fr := match fs[n]? with
  | some x => fs.set n ⟨o, 1, x.mem⟩
  | none => fs

/-- What Acquire answers, and the frames behind it. -/
def acq (fs : List Fr) (Q : Nat) (o : Int) : Int × Int × List Fr :=
  if o < 1 ∨ 2147483647 < o then (0, 3, fs)
  else if Q ≤ cnt fs o then (0, 17, fs)
  else match first fs with
    | none => (0, 15, fs)
    | some n => ((n : Int), 0, taken fs n o)

/-- A pool, its insides shut. -/
def Pool (w : World) (p N Q T lo hi : Nat) (fs : List Fr) : Prop := ∃ fb ib cap mb fbs l f, PL w p fb ib cap mb T N Q lo hi fbs fs l f

theorem Pool.kept {w w' : World} {p N Q T lo hi : Nat} {fs : List Fr} (h : Pool w p N Q T lo hi fs) (ho : Kept w w') : Pool w' p N Q T lo hi fs := by
  obtain ⟨fb, ib, cap, mb, fbs, l, f, h⟩ := h
  exact ⟨fb, ib, cap, mb, fbs, l, f, h.kept ho⟩

theorem Pool.mono {w : World} {p N Q T T' lo hi : Nat} {fs : List Fr} (h : Pool w p N Q T lo hi fs) (hT : T ≤ T') (hT' : T' ≤ 900000) : Pool w p N Q T' lo hi fs := by
  obtain ⟨fb, ib, cap, mb, fbs, l, f, h⟩ := h
  obtain ⟨q, D, a1, a2, a3⟩ := h.map
  exact ⟨fb, ib, cap, mb, fbs, l, f, { h with map := ⟨q, D, by omega, a2, a3⟩, T1 := hT', books := h.books.mono hT }⟩

theorem PL.first {w : World} {p fb ib cap mb T N Q lo hi : Nat} {fbs : List Nat} {fs : List Fr} {l : List Nat} {f : Int → Int} (h : PL w p fb ib cap mb T N Q lo hi fbs fs l f) : first fs = l[0]? := by
  unfold Go.Proofs.Ytjfbanemjceimaa.first
  cases hl : l[0]? with
  | none =>
    have hnil : l = [] := by
      cases l with
      | nil => rfl
      | cons a l => simp at hl
    rw [List.findIdx?_eq_none_iff]
    intro x hx
    obtain ⟨i, hi⟩ := List.mem_iff_getElem?.1 hx
    rw [beq_eq_false_iff_ne]
    intro e
    have := (h.books.free i).2 ⟨x, hi, e⟩
    rw [hnil] at this
    cases this
  | some n =>
    have hn : n ∈ l := List.mem_iff_getElem?.2 ⟨0, hl⟩
    obtain ⟨x, hx, hx0⟩ := (h.books.free n).1 hn
    obtain ⟨hn', rfl⟩ := List.getElem?_eq_some_iff.1 hx
    rw [List.findIdx?_eq_some_iff_getElem]
    refine ⟨hn', by simpa using hx0, fun j hj => ?_⟩
    intro e
    have hjl : j ∈ l := (h.books.free j).2 ⟨fs[j], List.getElem?_eq_getElem _, by simpa using e⟩
    obtain ⟨i, hi⟩ := List.mem_iff_getElem?.1 hjl
    have hil := (List.getElem?_eq_some_iff.1 hi).1
    have := heap_least h.idle.heap i hil
    rw [kk_at nk hl, kk_at nk hi] at this
    unfold nk at this
    omega

theorem pool_acq (p N Q T lo hi : Nat) (fs : List Fr) (o : Int) (w : World) (h : Pool w p N Q T lo hi fs) (hT : T + 1 ≤ 900000) :
    Calls Try.prog 8 #[.pointer (some ⟨p, 0, none⟩), .int .i64 o] w fun e w' => e = .returned (.tuple #[.int .i64 (acq fs Q o).1, .int .i64 (acq fs Q o).2.1]) ∧ Only (fun k => lo ≤ k ∧ k < hi) w w' ∧
      Pool w' p N Q (T + 1) lo hi (acq fs Q o).2.2 := by
  have hP := h
  obtain ⟨fb, ib, cap, mb, fbs, l, f, h⟩ := h
  have hf := h.first
  unfold acq
  by_cases h1 : o < 1 ∨ 2147483647 < o
  · rw [if_pos h1]
    refine (pacq_range o w h h1).mono ?_
    rintro e w' ⟨rfl, rfl⟩
    exact ⟨rfl, Only.refl _ _, hP.mono (by omega) hT⟩
  · rw [if_neg h1]
    have hc := h.books.cnt o
    rw [if_pos (by omega)] at hc
    by_cases h2 : Q ≤ cnt fs o
    · rw [if_pos h2]
      refine (pacq_quota o w h (by omega) (by omega) (by omega)).mono ?_
      rintro e w' ⟨rfl, hk⟩
      exact ⟨rfl, hk.mono (fun _ _ f => f.elim), (hP.kept hk).mono (by omega) hT⟩
    · rw [if_neg h2, hf]
      cases hl : l[0]? with
      | none =>
        have hnil : l = [] := by
          cases l with
          | nil => rfl
          | cons a l => simp at hl
        refine (pacq_full o w h (by omega) (by omega) (by omega) hnil).mono ?_
        rintro e w' ⟨rfl, hk⟩
        exact ⟨rfl, hk.mono (fun _ _ f => f.elim), (hP.kept hk).mono (by omega) hT⟩
      | some n =>
        obtain ⟨x, hx, hx0⟩ := (h.books.free n).1 (List.mem_iff_getElem?.2 ⟨0, hl⟩)
        refine (pacq_ok o n x w h (by omega) (by omega) (by omega) hl hx hT).mono ?_
        rintro e w' ⟨rfl, ho, l', hpl⟩
        refine ⟨rfl, ho, ?_⟩
        simp only [taken, hx]
        exact ⟨fb, ib, cap, mb, fbs, l', _, hpl⟩
end Go.Proofs.Ytjfbanemjceimaa
