/- The pool's books: plain Lean. -/
import Derived.Test.YtjfbanemjceimaaMore
namespace Go.Proofs.Ytjfbanemjceimaa
open Go.RowKit
set_option linter.unusedVariables false
set_option linter.unusedSimpArgs false
set_option linter.unnecessarySimpa false

/-- A frame: its owner, its handles, its memory (a block, and what is in it), if it was made. -/
structure Fr where
  own : Int
  hand : Int
  mem : Option (Nat × Array Value)

def memVal : Option (Nat × Array Value) → Value
  | none => .slice none 0 0
  | some (m, _) => .slice (some ⟨m, 0, none⟩) 152064 152064

/-- How many frames an owner has. -/
def cnt (fs : List Fr) (o : Int) : Nat := fs.countP (fun x => x.own == o)

/-- The pool's books: the free list l, the map f, the frames fs. -/
structure Books (N T : Nat) (fs : List Fr) (l : List Nat) (f : Int → Int) : Prop where
  len : fs.length = N
  nd : l.Nodup
  free : ∀ i : Nat, i ∈ l ↔ ∃ x : Fr, fs[i]? = some x ∧ x.own = 0
  cnt : ∀ o, f o = if 0 < o then (cnt fs o : Int) else 0
  ok : ∀ (i : Nat) (x : Fr), fs[i]? = some x → 0 ≤ x.own ∧ x.own ≤ 2147483647 ∧ 0 ≤ x.hand ∧ x.hand ≤ T ∧ (x.own = 0 ↔ x.hand = 0)

theorem cnt_le (fs : List Fr) (o : Int) : cnt fs o ≤ fs.length := List.countP_le_length

theorem cnt_set (fs : List Fr) {n : Nat} {x : Fr} (hx : fs[n]? = some x) (y : Fr) (o : Int) : (cnt (fs.set n y) o : Int) = cnt fs o - (if x.own = o then 1 else 0) + (if y.own = o then 1 else 0) := by
  obtain ⟨hn, rfl⟩ := List.getElem?_eq_some_iff.1 hx
  unfold cnt
  rw [List.countP_set hn]
  have h1 : (if (fs[n].own == o) = true then 1 else 0) ≤ List.countP (fun x => x.own == o) fs := by
    split
    · rename_i h
      exact List.countP_pos_iff.2 ⟨fs[n], List.getElem_mem hn, h⟩
    · omega
  obtain ⟨c, hc⟩ : ∃ c, List.countP (fun x : Fr => x.own == o) fs = c := ⟨_, rfl⟩
  rw [hc] at h1 ⊢
  clear hc
  by_cases e1 : fs[n].own = o <;> by_cases e2 : y.own = o <;> simp [e1, e2] at h1 ⊢ <;> omega

theorem cnt_pos {fs : List Fr} {n : Nat} {x : Fr} (hx : fs[n]? = some x) : 1 ≤ cnt fs x.own := by
  obtain ⟨hn, rfl⟩ := List.getElem?_eq_some_iff.1 hx
  exact List.countP_pos_iff.2 ⟨fs[n], List.getElem_mem hn, by simp⟩

theorem nodup_lt : ∀ (N : Nat) (l : List Nat), l.Nodup → (∀ i, i ∈ l → i < N) → l.length ≤ N
  | 0, l, _, h => by
    cases l with
    | nil => simp
    | cons a l => exact absurd (h a (by simp)) (by omega)
  | N + 1, l, hn, h => by
    by_cases hm : N ∈ l
    · have h1 := nodup_lt N (l.erase N) (hn.erase N) (fun i hi => by
        have := (hn.mem_erase_iff).1 hi
        have := h i this.2
        omega)
      have h2 := List.length_erase_of_mem hm
      omega
    · have := nodup_lt N l hn (fun i hi => by
        have := h i hi
        have : i ≠ N := by rintro rfl; exact hm hi
        omega)
      omega

section
variable {N T : Nat} {fs : List Fr} {l : List Nat} {f : Int → Int}

theorem Books.mono (h : Books N T fs l f) {T' : Nat} (hT : T ≤ T') : Books N T' fs l f :=
  ⟨h.len, h.nd, h.free, h.cnt, fun i x hx => by obtain ⟨a, b, c, d, e⟩ := h.ok i x hx; exact ⟨a, b, c, by omega, e⟩⟩

/-- A free frame n is taken. -/
theorem Books.take (h : Books N T fs l f) {n : Nat} {x : Fr} {o : Int} {l' : List Nat} (hx : fs[n]? = some x) (h0 : x.own = 0) (ho : 1 ≤ o) (ho' : o ≤ 2147483647) (hl : (n :: l').Perm l) :
    Books N (T + 1) (fs.set n ⟨o, 1, x.mem⟩) l' (setAt f o (f o + 1)) := by
  have hnd := (hl.nodup_iff.2 h.nd)
  have hn := (List.getElem?_eq_some_iff.1 hx).1
  refine ⟨by simpa using h.len, (List.nodup_cons.1 hnd).2, fun i => ?_, fun q => ?_, fun i y hy => ?_⟩
  · have h1 : i ∈ n :: l' ↔ i ∈ l := hl.mem_iff
    have h2 := h.free i
    by_cases e : i = n
    · subst e
      rw [List.getElem?_set_self hn]
      constructor
      · intro hi; exact absurd hi (List.nodup_cons.1 hnd).1
      · rintro ⟨y, hy, hy0⟩; cases hy; simp at hy0; omega
    · rw [List.getElem?_set_ne (fun q => e q.symm)]
      rw [← h2, ← h1]
      simp [e]
  · have hc := cnt_set fs hx ⟨o, 1, x.mem⟩ q
    have hf := h.cnt q
    by_cases e : q = o
    · subst e
      rw [setAt_same, if_pos (by omega), hc, hf, if_pos (by omega), if_neg (by omega), if_pos rfl]
      omega
    · rw [setAt_other _ _ e, hf]
      by_cases e0 : 0 < q
      · rw [if_pos e0, if_pos e0, hc, if_neg (by omega), if_neg (fun h => e h.symm)]; omega
      · rw [if_neg e0, if_neg e0]
  · by_cases e : i = n
    · subst e
      rw [List.getElem?_set_self hn] at hy
      cases hy
      exact ⟨by simp; omega, by simpa using ho', by simp, by simp; omega, by simp; omega⟩
    · rw [List.getElem?_set_ne (fun q => e q.symm)] at hy
      obtain ⟨a, b, c, d, g⟩ := h.ok i y hy
      exact ⟨a, b, c, by omega, g⟩

/-- A frame n that is not free is freed. -/
theorem Books.give (h : Books N T fs l f) {n : Nat} {x : Fr} {l' : List Nat} (hx : fs[n]? = some x) (h0 : x.own ≠ 0) (hl : l'.Perm (n :: l)) :
    Books N (T + 1) (fs.set n ⟨0, 0, x.mem⟩) l' (setAt f x.own (f x.own + -1)) := by
  have hn := (List.getElem?_eq_some_iff.1 hx).1
  have hno : n ∉ l := fun hi => by
    obtain ⟨y, hy, hy0⟩ := (h.free n).1 hi
    rw [hx] at hy; cases hy
    exact h0 hy0
  have hok := h.ok n x hx
  refine ⟨by simpa using h.len, hl.nodup_iff.2 (List.nodup_cons.2 ⟨hno, h.nd⟩), fun i => ?_, fun q => ?_, fun i y hy => ?_⟩
  · rw [hl.mem_iff]
    have h2 := h.free i
    by_cases e : i = n
    · subst e
      rw [List.getElem?_set_self hn]
      simp
    · rw [List.getElem?_set_ne (fun q => e q.symm), ← h2]
      simp [e]
  · have hc := cnt_set fs hx ⟨0, 0, x.mem⟩ q
    have hf := h.cnt q
    by_cases e : q = x.own
    · subst e
      rw [setAt_same, if_pos (by omega), hc, hf, if_pos (by omega), if_pos rfl, if_neg (fun h => h0 h.symm)]
      omega
    · rw [setAt_other _ _ e, hf]
      by_cases e0 : 0 < q
      · rw [if_pos e0, if_pos e0, hc, if_neg (fun h => e h.symm), if_neg (by simp; omega)]; omega
      · rw [if_neg e0, if_neg e0]
  · by_cases e : i = n
    · subst e
      rw [List.getElem?_set_self hn] at hy
      cases hy
      exact ⟨by simp, by simp, by simp, by simp; omega, by simp⟩
    · rw [List.getElem?_set_ne (fun q => e q.symm)] at hy
      obtain ⟨a, b, c, d, g⟩ := h.ok i y hy
      exact ⟨a, b, c, by omega, g⟩

/-- A frame's handles or memory turn. -/
theorem Books.turn (h : Books N T fs l f) {n : Nat} {x : Fr} (hx : fs[n]? = some x) {T' : Nat} (hT : T ≤ T') (hd : Int) (m : Option (Nat × Array Value)) (h1 : 0 ≤ hd) (h2 : hd ≤ T') (h3 : x.own = 0 ↔ hd = 0) :
    Books N T' (fs.set n ⟨x.own, hd, m⟩) l f := by
  have hn := (List.getElem?_eq_some_iff.1 hx).1
  refine ⟨by simpa using h.len, h.nd, fun i => ?_, fun q => ?_, fun i y hy => ?_⟩
  · have h2 := h.free i
    rw [h2]
    by_cases e : i = n
    · subst e
      rw [List.getElem?_set_self hn, hx]
      simp
    · rw [List.getElem?_set_ne (fun q => e q.symm)]
  · have hc := cnt_set fs hx ⟨x.own, hd, m⟩ q
    rw [h.cnt q, hc]
    simp only
    split <;> omega
  · by_cases e : i = n
    · subst e
      rw [List.getElem?_set_self hn] at hy
      cases hy
      obtain ⟨a, b, c, d, g⟩ := h.ok i x hx
      exact ⟨a, b, h1, h2, h3⟩
    · rw [List.getElem?_set_ne (fun q => e q.symm)] at hy
      obtain ⟨a, b, c, d, g⟩ := h.ok i y hy
      exact ⟨a, b, c, by omega, g⟩
end
end Go.Proofs.Ytjfbanemjceimaa
