/- PoolCounts: the plain part. -/
import Derived.Test.YtjfbanemjceimaaOwW
namespace Go.Proofs.Ytjfbanemjceimaa
open Go.RowKit Go.Maps
set_option linter.unusedVariables false
set_option linter.unusedSimpArgs false
set_option linter.unnecessarySimpa false

/-- The handles, as cells. -/
def hands (fs : List Fr) : Array Value := (fs.map fun x => Value.int .i64 x.hand).toArray

theorem hands_get (fs : List Fr) (i : Nat) : (hands fs)[i]? = (fs[i]?).map fun x => Value.int .i64 x.hand := by
  unfold hands
  simp

theorem hands_at {fs : List Fr} {i : Nat} {x : Fr} (h : fs[i]? = some x) : (hands fs)[i]? = some (.int .i64 x.hand) := by
  rw [hands_get, h]; rfl

theorem hands_size (fs : List Fr) : (hands fs).size = fs.length := by simp [hands]

theorem hands_set (fs : List Fr) (n : Nat) (x : Fr) : hands (fs.set n x) = (hands fs).setIfInBounds n (.int .i64 x.hand) := by
  unfold hands
  simp [List.map_set]

/-- How many frames belong to the owners from 1 to j. -/
def cntTo (fs : List Fr) (j : Nat) : Nat := fs.countP fun x => decide (0 < x.own ∧ x.own ≤ (j : Int))

theorem cntTo_zero (fs : List Fr) : cntTo fs 0 = 0 := by
  unfold cntTo
  rw [List.countP_eq_zero]
  intro x _
  simp <;> omega

theorem cntTo_succ (j : Nat) : ∀ fs : List Fr, cntTo fs (j + 1) = cntTo fs j + cnt fs ((j : Int) + 1)
  | [] => rfl
  | x :: l => by
    have ih := cntTo_succ j l
    unfold cntTo cnt at ih ⊢
    rw [List.countP_cons, List.countP_cons, List.countP_cons, ih]
    have e1 : (x.own == (j : Int) + 1) = decide (x.own = (j : Int) + 1) := rfl
    by_cases h1 : x.own = (j : Int) + 1
    · have h2 : ¬ (0 < x.own ∧ x.own ≤ (j : Int)) := by omega
      have h3 : 0 < x.own ∧ x.own ≤ ((j + 1 : Nat) : Int) := by omega
      simp only [e1, decide_eq_true h1, decide_eq_true h3, decide_eq_false h2]
      simp <;> omega
    · by_cases h2 : 0 < x.own ∧ x.own ≤ (j : Int)
      · have h3 : 0 < x.own ∧ x.own ≤ ((j + 1 : Nat) : Int) := by omega
        simp only [e1, decide_eq_false h1, decide_eq_true h3, decide_eq_true h2]
        simp <;> omega
      · have h3 : ¬ (0 < x.own ∧ x.own ≤ ((j + 1 : Nat) : Int)) := by omega
        simp only [e1, decide_eq_false h1, decide_eq_false h3, decide_eq_false h2]
        simp

theorem cntTo_le (fs : List Fr) (j : Nat) : cntTo fs j ≤ fs.length := List.countP_le_length

theorem cnt_all : ∀ fs : List Fr, (∀ (i : Nat) (x : Fr), fs[i]? = some x → 0 ≤ x.own ∧ x.own ≤ 4) → cnt fs 0 + cntTo fs 4 = fs.length
  | [], _ => rfl
  | x :: l, h => by
    have ih := cnt_all l (fun i y hy => h (i + 1) y (by simpa using hy))
    have h0 := h 0 x rfl
    unfold cntTo cnt at ih ⊢
    rw [List.countP_cons, List.countP_cons, List.length_cons, ← ih]
    have e1 : (x.own == 0) = decide (x.own = 0) := rfl
    by_cases h1 : x.own = 0
    · have h2 : ¬ (0 < x.own ∧ x.own ≤ ((4 : Nat) : Int)) := by omega
      simp only [e1, decide_eq_true h1, decide_eq_false h2]
      simp <;> omega
    · have h2 : 0 < x.own ∧ x.own ≤ ((4 : Nat) : Int) := by omega
      simp only [e1, decide_eq_false h1, decide_eq_true h2]
      simp <;> omega

theorem cnt_step (fs : List Fr) (k : Nat) (x : Fr) (o : Int) (h : fs[k]? = some x) : cnt (fs.take (k + 1)) o = cnt (fs.take k) o + if x.own = o then 1 else 0 := by
  obtain ⟨hk, rfl⟩ := List.getElem?_eq_some_iff.1 h
  unfold cnt
  rw [List.take_succ_eq_append_getElem hk, List.countP_append]
  by_cases h1 : fs[k].own = o <;> simp [h1]

/-- What the law knows of the frames. -/
structure Tame (Q : Nat) (fs : List Fr) : Prop where
  own4 : ∀ (i : Nat) (x : Fr), fs[i]? = some x → x.own ≤ 4
  quo : ∀ o : Int, 0 < o → cnt fs o ≤ Q

theorem tame_new (N Q : Nat) : Tame Q (List.replicate N ⟨0, 0, none⟩) where
  own4 := fun i x hx => by
    rw [List.getElem?_replicate] at hx
    split at hx
    · cases hx; decide
    · cases hx
  quo := fun o ho => by
    unfold cnt
    rw [List.countP_replicate]
    have : ((0 : Int) == o) = false := by rw [beq_eq_false_iff_ne]; omega
    simp [this]

theorem Tame.set_ {Q : Nat} {fs : List Fr} (h : Tame Q fs) {n : Nat} {x y : Fr} (hx : fs[n]? = some x) (h4 : y.own ≤ 4) (hq : y.own = x.own ∨ y.own ≤ 0 ∨ cnt fs y.own < Q) : Tame Q (fs.set n y) where
  own4 := fun i z hz => by
    rcases set_get hx hz with ⟨_, rfl⟩ | ⟨_, h1⟩
    · exact h4
    · exact h.own4 i z h1
  quo := fun o ho => by
    have := cnt_set fs hx y o
    have h1 := h.quo o ho
    by_cases e : y.own = o
    · subst e
      rw [if_pos rfl] at this
      rcases hq with e1 | e1 | e1
      · rw [if_pos e1.symm] at this; omega
      · omega
      · split at this <;> omega
    · rw [if_neg e] at this
      split at this <;> omega

theorem cnt_recl (o : Int) (ho : 0 < o) (q : Int) (hq : 0 < q) : ∀ fs : List Fr, cnt (recl fs o) q ≤ cnt fs q
  | [] => Nat.le_refl _
  | x :: l => by
    have ih := cnt_recl o ho q hq l
    unfold recl cnt at ih ⊢
    rw [List.map_cons, List.countP_cons, List.countP_cons]
    have : ((rc o x).own == q) = true → (x.own == q) = true := by
      unfold rc
      split
      · intro h; simp at h; omega
      · exact id
    by_cases e : ((rc o x).own == q) = true
    · rw [if_pos e, if_pos (this e)]; omega
    · rw [if_neg e]; split <;> omega

theorem Tame.recl_ {Q : Nat} {fs : List Fr} (h : Tame Q fs) {o : Int} (ho : 0 < o) : Tame Q (recl fs o) where
  own4 := fun i z hz => by
    unfold recl at hz
    rw [List.getElem?_map] at hz
    cases hx : fs[i]? with
    | none => rw [hx] at hz; cases hz
    | some x =>
      rw [hx] at hz
      simp at hz
      subst hz
      unfold rc
      split
      · show (0 : Int) ≤ 4
        decide
      · exact h.own4 i x hx
  quo := fun q hq => Nat.le_trans (cnt_recl o ho q hq fs) (h.quo q hq)

theorem Pool.len {w : World} {p N Q T lo hi : Nat} {fs : List Fr} (h : Pool w p N Q T lo hi fs) : fs.length = N := by
  obtain ⟨fb, ib, cap, mb, fbs, l, f, h⟩ := h
  exact h.books.len

theorem Pool.ok {w : World} {p N Q T lo hi : Nat} {fs : List Fr} (h : Pool w p N Q T lo hi fs) : ∀ (i : Nat) (x : Fr), fs[i]? = some x → 0 ≤ x.own ∧ x.own ≤ 2147483647 ∧ 0 ≤ x.hand ∧ x.hand ≤ T ∧ (x.own = 0 ↔ x.hand = 0) := by
  obtain ⟨fb, ib, cap, mb, fbs, l, f, h⟩ := h
  exact h.books.ok

theorem Pool.T1 {w : World} {p N Q T lo hi : Nat} {fs : List Fr} (h : Pool w p N Q T lo hi fs) : T ≤ 900000 := by
  obtain ⟨fb, ib, cap, mb, fbs, l, f, h⟩ := h
  exact h.T1

theorem pool_free {w : World} {p N Q T lo hi : Nat} {fs : List Fr} (h : Pool w p N Q T lo hi fs) : Calls Try.prog 17 #[.pointer (some ⟨p, 0, none⟩)] w fun e w' => e = .returned (.int .i64 (cnt fs 0 : Nat)) ∧ w = w' := by
  obtain ⟨fb, ib, cap, mb, fbs, l, f, h⟩ := h
  have h1 := pfree_ok w h
  rw [h.free_len] at h1
  exact h1

/-- PoolCounts between its acts. -/
structure CntSt (w wr : World) (p N Q T lo hi hb : Nat) (fs : List Fr) : Prop where
  pool : Pool wr p N Q T lo hi fs
  lo0 : w.heap.size ≤ lo
  lohi : lo ≤ hi
  hib : hi ≤ hb
  kept : Kept w wr
  hand : Blk wr hb 3 (hands fs)
  tame : Tame Q fs

section
variable {w wr w2 : World} {p N Q T T' lo hi hb : Nat} {fs fs' : List Fr}

theorem CntSt.keep (h : CntSt w wr p N Q T lo hi hb fs) (ho : Kept wr w2) : CntSt w w2 p N Q T lo hi hb fs :=
  ⟨h.pool.kept ho, h.lo0, h.lohi, h.hib, h.kept.trans ho, Only.blk ho h.hand (fun f => f), h.tame⟩

theorem CntSt.mono (h : CntSt w wr p N Q T lo hi hb fs) (hT : T ≤ T') (hT' : T' ≤ 900000) : CntSt w wr p N Q T' lo hi hb fs :=
  ⟨h.pool.mono hT hT', h.lo0, h.lohi, h.hib, h.kept, h.hand, h.tame⟩

/-- The pool alone has turned; the handles' block is as it was. -/
theorem CntSt.hand2 (h : CntSt w wr p N Q T lo hi hb fs) (ho : Only (fun q => lo ≤ q ∧ q < hi) wr w2) : Blk w2 hb 3 (hands fs) := ho.blk h.hand (fun e => by have := h.hib; omega)

/-- The pool has turned, and then one handle was written. -/
theorem CntSt.turn (h : CntSt w wr p N Q T lo hi hb fs) (ho : Only (fun q => lo ≤ q ∧ q < hi) wr w2) (hp : Pool w2 p N Q T' lo hi fs') (ht : Tame Q fs') {n : Nat} {v : Value} (hh : hands fs' = (hands fs).setIfInBounds n v)
    (hz : ∀ (i m : Nat) (x : Fr) (cs : Array Value), fs'[i]? = some x → x.mem = some (m, cs) → m ≠ hb) :
    CntSt w (w2.setCell ⟨hb, n, none⟩ v) p N Q T' lo hi hb fs' := by
  have hO : Only (fun q => q = hb) w2 (w2.setCell ⟨hb, n, none⟩ v) := (Only.refl (fun q => q = hb) w2).setOf (o := n) rfl _
  have hl := h.lo0
  have hlh := h.lohi
  have hib := h.hib
  obtain ⟨fb, ib, cap, mb, fbs, l, f, hpl⟩ := hp
  exact
    { pool := ⟨fb, ib, cap, mb, fbs, l, f, hpl.keep hO (fun q h1 h2 e => by omega) (fun i x m cs hx he e => hz i m x cs hx he e)⟩
      lo0 := hl
      lohi := hlh
      hib := hib
      kept := (h.kept.trans' ho (fun q hq e => by omega)).trans' hO (fun q hq e => by omega)
      hand := by rw [hh]; exact (h.hand2 ho).set_ n v
      tame := ht }

theorem CntSt.same (h : CntSt w wr p N Q T lo hi hb fs) (ho : Only (fun q => lo ≤ q ∧ q < hi) wr w2) (hp : Pool w2 p N Q T' lo hi fs) : CntSt w w2 p N Q T' lo hi hb fs :=
  ⟨hp, h.lo0, h.lohi, h.hib, h.kept.trans' ho (fun q hq e => by have := h.lo0; omega), h.hand2 ho, h.tame⟩

theorem Pool.memNe {w : World} {p N Q T lo hi : Nat} {fs : List Fr} (h : Pool w p N Q T lo hi fs) {hb : Nat} {cs : Array Value} (hh : Blk w hb 3 cs) (i m : Nat) (x : Fr) (ds : Array Value) (hx : fs[i]? = some x) (hm : x.mem = some (m, ds)) : m ≠ hb :=
  (h.memBlk hx hm).ne_ hh (by decide)
end

theorem acq_cases (fs : List Fr) (Q : Nat) (o : Int) (h1 : 1 ≤ o) (h2 : o ≤ 2147483647) : (∃ e : Int, e ≠ 0 ∧ acq fs Q o = (0, e, fs)) ∨ (∃ (n : Nat) (x : Fr), fs[n]? = some x ∧ x.own = 0 ∧ cnt fs o < Q ∧ acq fs Q o = ((n : Int), 0, fs.set n ⟨o, 1, x.mem⟩)) := by
  unfold acq
  rw [if_neg (by omega)]
  by_cases h3 : Q ≤ cnt fs o
  · rw [if_pos h3]
    exact .inl ⟨17, by decide, rfl⟩
  · rw [if_neg h3]
    cases hf : first fs with
    | none => exact .inl ⟨15, by decide, rfl⟩
    | some n =>
      unfold first at hf
      rw [List.findIdx?_eq_some_iff_getElem] at hf
      obtain ⟨hn, h0, _⟩ := hf
      refine .inr ⟨n, fs[n], List.getElem?_eq_getElem hn, by simpa using h0, by omega, ?_⟩
      simp only [taken, List.getElem?_eq_getElem hn]

theorem retained_cases (fs : List Fr) (n : Nat) (o : Int) : (why fs n o ≠ 0 ∧ retained fs n o = fs) ∨ (why fs n o = 0 ∧ ∃ x : Fr, fs[n]? = some x ∧ x.own = o ∧ x.own ≠ 0 ∧ retained fs n o = fs.set n ⟨x.own, x.hand + 1, x.mem⟩) := by
  unfold retained
  by_cases h : why fs n o = 0
  · right
    obtain ⟨m, x, e, hx, h1, h2⟩ := why_ok h
    obtain rfl : n = m := by omega
    refine ⟨h, x, hx, h1, h2, ?_⟩
    rw [if_pos h]
    simp [hx]
  · left
    exact ⟨h, by rw [if_neg h]⟩

theorem released_cases (fs : List Fr) (n : Nat) (o : Int) : (why fs n o ≠ 0 ∧ released fs n o = fs) ∨ (why fs n o = 0 ∧ ∃ x y : Fr, fs[n]? = some x ∧ x.own = o ∧ x.own ≠ 0 ∧ released fs n o = fs.set n y ∧ y.hand = x.hand - 1 ∧ (y.own = 0 ∨ y.own = x.own) ∧ y.mem = x.mem) := by
  unfold released
  by_cases h : why fs n o = 0
  · right
    obtain ⟨m, x, e, hx, h1, h2⟩ := why_ok h
    obtain rfl : n = m := by omega
    refine ⟨h, x, if x.hand = 1 then ⟨0, 0, x.mem⟩ else ⟨x.own, x.hand - 1, x.mem⟩, hx, h1, h2, ?_⟩
    rw [if_pos h]
    by_cases e : x.hand = 1
    · simp [hx, e]
    · simp [hx, e]
  · left
    exact ⟨h, by rw [if_neg h]⟩

/-- The handles once k frames of a reclaimed pool were looked at. -/
def Mix (gs fs : List Fr) (k : Nat) (cs : Array Value) : Prop := cs.size = fs.length ∧ ∀ i : Nat, cs[i]? = if i < k then (hands gs)[i]? else (hands fs)[i]?

theorem Mix.zero (gs fs : List Fr) : Mix gs fs 0 (hands fs) := ⟨hands_size fs, fun i => by rw [if_neg (by omega)]⟩

theorem Mix.done {gs fs : List Fr} {k : Nat} {cs : Array Value} (h : Mix gs fs k cs) (hl : gs.length = k) (hl2 : fs.length = k) : cs = hands gs := by
  apply Array.ext_getElem?
  intro i
  rw [h.2 i]
  by_cases e : i < k
  · rw [if_pos e]
  · rw [if_neg e, Array.getElem?_eq_none (by rw [hands_size]; omega), Array.getElem?_eq_none (by rw [hands_size]; omega)]

theorem Mix.write {gs fs : List Fr} {k : Nat} {cs : Array Value} {v : Value} (h : Mix gs fs k cs) (hk : k < fs.length) (hv : (hands gs)[k]? = some v) : Mix gs fs (k + 1) (cs.setIfInBounds k v) := by
  refine ⟨by simpa using h.1, fun i => ?_⟩
  by_cases e : i = k
  · subst e
    rw [Array.getElem?_setIfInBounds_self_of_lt (by rw [h.1]; exact hk), if_pos (by omega), hv]
  · rw [Array.getElem?_setIfInBounds_ne (fun q => e q.symm), h.2 i]
    by_cases e2 : i < k
    · rw [if_pos e2, if_pos (by omega)]
    · rw [if_neg e2, if_neg (by omega)]

theorem Mix.skip {gs fs : List Fr} {k : Nat} {cs : Array Value} (h : Mix gs fs k cs) (hv : (hands gs)[k]? = (hands fs)[k]?) : Mix gs fs (k + 1) cs := by
  refine ⟨h.1, fun i => ?_⟩
  rw [h.2 i]
  by_cases e : i = k
  · subst e
    rw [if_neg (by omega), if_pos (by omega), hv]
  · by_cases e2 : i < k
    · rw [if_pos e2, if_pos (by omega)]
    · rw [if_neg e2, if_neg (by omega)]

theorem recl_get {fs : List Fr} {o : Int} {k : Nat} {x : Fr} (h : fs[k]? = some x) : (recl fs o)[k]? = some (rc o x) := by
  unfold recl
  rw [List.getElem?_map, h]; rfl

theorem at0_get {fs : List Fr} {k : Nat} {x : Fr} (g : Fr → Int) (h : fs[k]? = some x) : at0 fs g (k : Int) = g x := by
  unfold at0
  rw [if_pos (by omega)]
  simp [h]
end Go.Proofs.Ytjfbanemjceimaa
