/- A range over the victims: the law for its callers. -/
import Derived.Test.YtflljldmcidhgaaItA
namespace Go.Proofs.Ytflljldmcidhgaa
open Go.RowKit Go.Shelf
set_option linter.unusedVariables false
set_option linter.unusedSimpArgs false
set_option linter.unnecessarySimpa false

/-- A caller's word that minds neither the iterator's steps nor the loop's own books. -/
structure Calm (B : Nat) (I : World → Prop) : Prop where
  step : ∀ X X', I X → Only (IT B X) X X' → I X'
  book : ∀ (X : World) (k : Nat) (o o' : Obj), I X → B ≤ k → X.heap[k]? = some o → o.isCells = false → I (X.putObj k o')

/-- How a round may be left. -/
def vPost (B : Nat) (I : List Hd → World → Prop) (Ix : Code → List Hd → World → Prop) (xs : List Hd) (W : World) : Exit → Act → World → Prop
  | .normal, _, W' => KeepsOthers W W' ∧ KpR B W W' ∧ I xs W'
  | .ret, _, W' => KeepsOthers W W' ∧ Ix .ret xs W'
  | .exit id, _, W' => KeepsOthers W W' ∧ Ix (.exit id) xs W'
  | .goto t, _, W' => KeepsOthers W W' ∧ Ix (.goto t) xs W'
  | .panic _, _, _ => False
  | .outgrown, _, _ => False

/-- What stands at k stays through the iterator's steps, if k lies ahead of them. -/
theorem it_far {B k : Nat} {X X' : World} {o : Obj} (h : Only (IT B X) X X') (hk : k < B) (ho : X.heap[k]? = some o) : X'.heap[k]? = some o :=
  (h.block k (Array.getElem?_eq_some_iff.1 ho).1 (fun e => by have := e.1; omega)).trans ho

section
variable {g : Operand} {ps : Array Tmp} {assign body : Code} {Q : Exit → Act → World → Prop} {a : Act} {w : World} {m Bn n c : Nat} {A : Option Addr} {hs V : List Hd}

theorem range_vics (hn : hs.length = n) (h64 : n ≤ 64) (hok : ∀ x ∈ hs, Hok x) (hV : (full hs).Perm V) (hVs : V.Pairwise (fun a b => kh a < kh b))
    (hg : a.eval g = .func (.func 29) #[] #[.pointer (some ⟨Bn, 0, none⟩)]) (hBn : w.cell? ⟨Bn, 0, none⟩ = some (.slice A n c)) (hL : Hs w A hs) (hps : ps.size = 2)
    (I : List Hd → World → Prop) (Ix : Code → List Hd → World → Prop) (hI : ∀ s, Calm w.heap.size (I s)) (hIx : ∀ cd s, Calm w.heap.size (Ix cd s)) (h0 : I [] w) (a₁ : Hd → Act)
    (hassign : ∀ (l : Nat) (x : Hd) (W : World) (K : Act → World → Prop), K (a₁ x) W →
      assign.wpIn (Fence.wide.inRound l) m Try.prog (Exit.then K (fun _ _ _ => False)) { tmps := (ps.zip #[.int .i64 x.id, .int .i64 x.fr]).foldl (fun t (p, v) => t.setIfInBounds p v) a.tmps, defers := [] } W)
    (hbody : ∀ (l : Nat) (pre : List Hd) (x : Hd) (W : World), I pre W → (pre ++ [x]) <+: V → body.wpIn (Fence.wide.inRound l) m Try.prog (vPost w.heap.size I Ix (pre ++ [x]) W) (a₁ x) W)
    (hdone : ∀ (D : Nat) (W : World), I V W → w.heap.size ≤ D → W.heap[D]? = some (.deferred (some [])) → Q .normal { a with defers := { target := .collected D, args := #[] } :: a.defers } W)
    (hstop : ∀ (D : Nat) (cd : Code) (pre : List Hd) (x : Hd) (W : World), (pre ++ [x]) <+: V → Ix cd (pre ++ [x]) W → w.heap.size ≤ D → W.heap[D]? = some (.deferred (some [])) →
      cd.wpIn Fence.wide (m + 2) Try.prog Q { a with defers := { target := .collected D, args := #[] } :: a.defers } W) :
    (Code.rangeFunc g ps assign body).wpIn Fence.wide (m + 2) Try.prog Q a w := by
  refine wpIn_rangeFunc (fun fn hfn => ?_)
  obtain ⟨S, hS⟩ : ∃ S, w.heap.size = S := ⟨_, rfl⟩
  obtain ⟨lp, hlp⟩ : ∃ lp : LoopState → Option Code → Loop, lp = fun st pe => { state := st, pending := pe, fn, tmps := a.tmps, params := ps, assign, body, defers := w.heap.size } := ⟨_, rfl⟩
  obtain ⟨W1, hW1⟩ : ∃ W1, (w.alloc (.deferred (some []))).alloc (.loop (lp .ready none)) = W1 := ⟨_, rfl⟩
  have hz1 : W1.heap.size = S + 2 := by rw [← hW1, ← hS]; simp
  have hl1 : W1.heap[S + 1]? = some (.loop (lp .ready none)) := by
    rw [← hW1, ← hS]
    have := World.alloc_heap_new (w.alloc (.deferred (some []))) (.loop (lp .ready none))
    rwa [World.size_alloc] at this
  have hd1 : W1.heap[S]? = some (.deferred (some [])) := by
    rw [← hW1, ← hS]
    exact (Below.heap_alloc _ _ _ (by simp)).trans (World.alloc_heap_new w _)
  have hk1 : Kept w W1 := by rw [← hW1]; exact ((Only.refl _ w).alloc _).alloc _
  have hi1 : I [] W1 := (hI []).step w W1 h0 (hk1.mono (fun _ _ f => f.elim))
  have he : (Instr.enterLoop fn a.tmps ps assign body none).run Try.prog w = .ok (S + 1, [{ target := .collected S, args := #[] }]) W1 := by
    have := run_enterLoop_outer (P := Try.prog) (w := w) fn a.tmps ps assign body
    rw [this, ← hW1, hlp, hS]
  rw [hS] at hI hIx hbody hdone hstop
  -- the books at the loop's two blocks
  have look : ∀ {X : World} {st : LoopState} {pe : Option Code} (st' : LoopState) (pe' : Option Code), X.heap[S + 1]? = some (.loop (lp st pe)) → X.heap[S]? = some (.deferred (some [])) →
      (X.putObj (S + 1) (.loop (lp st' pe'))).heap[S + 1]? = some (.loop (lp st' pe')) ∧ (X.putObj (S + 1) (.loop (lp st' pe'))).heap[S]? = some (.deferred (some [])) := by
    intro X st pe st' pe' h1 h2
    exact ⟨World.putObj_heap_same (Array.getElem?_eq_some_iff.1 h1).1, (World.putObj_heap_other (by omega)).trans h2⟩
  refine ⟨S + 1, [{ target := .collected S, args := #[] }], W1, { target := .fn (.func 29) #[.pointer (some ⟨Bn, 0, none⟩)], args := #[.func (.yield (S + 1)) #[] #[]] }, W1, 29,
    #[.func (.yield (S + 1)) #[] #[], .pointer (some ⟨Bn, 0, none⟩)], W1, he, ?_, fun _ _ => trivial, ?_, fun _ => by omega, ?_⟩
  · simp only [resolve, hg]
    simp [go_sem]
  · simp [invoke, go_sem, enters_of Try.func29 (by kernel_rfl) rfl]
  refine (victims1_in m (S + 1) Bn n c A hs V
    (fun pre X => I pre X ∧ X.heap[S + 1]? = some (.loop (lp .ready none)) ∧ X.heap[S]? = some (.deferred (some [])))
    (fun pre X => ∃ cd, Ix cd pre X ∧ X.heap[S + 1]? = some (.loop (lp .done (some cd))) ∧ X.heap[S]? = some (.deferred (some [])))
    W1 hn h64 hok hV hVs ?_ ?_ (kept_cell hk1 hBn) (hL.kept hk1) ⟨hi1, hl1, hd1⟩).mono ?_
  · rintro s X X' ⟨h1, h2, h3⟩ ho
    rw [hz1] at ho
    refine ⟨(hI s).step X X' h1 (ho.mono (fun k _ e => ⟨by have := e.1; omega, e.2⟩)), it_far ho (by omega) h2, it_far ho (by omega) h3⟩
  · rintro pre x X ⟨h1, h2, h3⟩ hpre
    have hy := run_yield (P := Try.prog) (args := #[.int .i64 x.id, .int .i64 x.fr]) h2 (by rw [hlp]; simp [hps])
    rw [hlp] at hy
    refine ⟨fn, _, assign, body, hy, roundIn_of_wpIn hfn (hassign _ x X _ ⟨_, run_beginRound h2 (by rw [hlp]), ?_⟩)⟩
    obtain ⟨b1, b2⟩ := look .busy none h2 h3
    have eb : (.loop { lp .ready none with state := .busy } : Obj) = .loop (lp .busy none) := by rw [hlp]
    rw [eb]
    have hi2 : I pre (X.putObj (S + 1) (.loop (lp .busy none))) := (hI pre).book X (S + 1) _ _ h1 (by omega) h2 rfl
    refine wpIn_mono (hbody _ pre x _ hi2 hpre) ?_
    have fin : ∀ (jump : Option Code) (X3 : World), KeepsOthers (X.putObj (S + 1) (.loop (lp .busy none))) X3 →
        (Instr.endRound (S + 1) jump).run Try.prog X3 = .ok (.bool jump.isNone) (X3.putObj (S + 1) (.loop (lp (if jump.isNone then .ready else .done) jump))) ∧
        X3.heap[S + 1]? = some (.loop (lp .busy none)) ∧ X3.heap[S]? = some (.deferred (some [])) := by
      intro jump X3 hk
      have q1 := hk.same _ _ b1 rfl
      have q2 := hk.same _ _ b2 rfl
      refine ⟨?_, q1, q2⟩
      have := run_endRound (P := Try.prog) jump q1
      rw [this, hlp]
    rintro e a3 X3 hp
    cases e with
    | normal =>
      obtain ⟨hk, hkr, hi3⟩ := hp
      obtain ⟨hr, q1, q2⟩ := fin none X3 hk
      obtain ⟨r1, r2⟩ := look .ready none q1 q2
      refine ⟨_, _, hr, .inl ⟨rfl, ⟨(hI _).book X3 (S + 1) _ _ hi3 (by omega) q1 rfl, r1, r2⟩, ?_⟩⟩
      rw [hz1]
      exact ((KpR.put h2 rfl).trans (hkr.mono (by omega))).trans (KpR.put q1 rfl)
    | ret =>
      obtain ⟨hk, hi3⟩ := hp
      obtain ⟨hr, q1, q2⟩ := fin (some .ret) X3 hk
      obtain ⟨r1, r2⟩ := look .done (some .ret) q1 q2
      exact ⟨_, _, hr, .inr ⟨rfl, .ret, (hIx _ _).book X3 (S + 1) _ _ hi3 (by omega) q1 rfl, r1, r2⟩⟩
    | exit id =>
      obtain ⟨hk, hi3⟩ := hp
      obtain ⟨hr, q1, q2⟩ := fin (some (.exit id)) X3 hk
      obtain ⟨r1, r2⟩ := look .done (some (.exit id)) q1 q2
      exact ⟨_, _, hr, .inr ⟨rfl, .exit id, (hIx _ _).book X3 (S + 1) _ _ hi3 (by omega) q1 rfl, r1, r2⟩⟩
    | goto t =>
      obtain ⟨hk, hi3⟩ := hp
      obtain ⟨hr, q1, q2⟩ := fin (some (.goto t)) X3 hk
      obtain ⟨r1, r2⟩ := look .done (some (.goto t)) q1 q2
      exact ⟨_, _, hr, .inr ⟨rfl, .goto t, (hIx _ _).book X3 (S + 1) _ _ hi3 (by omega) q1 rfl, r1, r2⟩⟩
    | panic ch => exact hp.elim
    | outgrown => exact hp.elim
  · rintro e W2 ⟨⟨v, rfl⟩, (⟨h1, h2, h3⟩ | ⟨pre, x, hpre, cd, h1, h2, h3⟩)⟩
    · have hr := run_endLoop (P := Try.prog) h2 (by rw [hlp]; simp)
      have ee : (.loop { lp .ready none with state := .exhausted } : Obj) = .loop (lp .exhausted none) := by rw [hlp]
      rw [ee] at hr
      obtain ⟨r1, r2⟩ := look .exhausted none h2 h3
      refine ⟨none, _, by rw [hr, hlp], hdone S _ ((hI V).book W2 (S + 1) _ _ h1 (by omega) h2 rfl) (Nat.le_refl _) r2⟩
    · have hr := run_endLoop (P := Try.prog) h2 (by rw [hlp]; simp)
      have ee : (.loop { lp .done (some cd) with state := .exhausted } : Obj) = .loop (lp .exhausted (some cd)) := by rw [hlp]
      rw [ee] at hr
      obtain ⟨r1, r2⟩ := look .exhausted (some cd) h2 h3
      refine ⟨some cd, _, by rw [hr, hlp], hstop S cd pre x _ hpre ((hIx cd _).book W2 (S + 1) _ _ h1 (by omega) h2 rfl) (Nat.le_refl _) r2⟩
end
end Go.Proofs.Ytflljldmcidhgaa
