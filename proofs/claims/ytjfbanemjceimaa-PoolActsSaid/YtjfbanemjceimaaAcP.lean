/- PoolActs: the plain part: the pool and the document's pool are alike. -/
import Derived.Test.YtjfbanemjceimaaRefE
import Derived.Test.YtjfbanemjceimaaActs
namespace Go.Proofs.Ytjfbanemjceimaa
open Go.RowKit Go.Maps
set_option linter.unusedVariables false
set_option linter.unusedSimpArgs false
set_option linter.unnecessarySimpa false

/-- What a frame shows. -/
def sh (x : Fr) : Int × Int × Array Value := (x.own, x.hand, cont x)

def Al (fs rs : List Fr) : Prop := fs.map sh = rs.map sh

section
variable {fs rs : List Fr}

theorem Al.len (h : Al fs rs) : fs.length = rs.length := by
  have := congrArg List.length h
  simpa using this

theorem Al.at_ (h : Al fs rs) (i : Nat) : (fs[i]?).map sh = (rs[i]?).map sh := by
  have := congrArg (fun l : List (Int × Int × Array Value) => l[i]?) h
  simpa using this

theorem Al.get (h : Al fs rs) {i : Nat} {x : Fr} (hx : fs[i]? = some x) : ∃ y, rs[i]? = some y ∧ y.own = x.own ∧ y.hand = x.hand ∧ cont y = cont x := by
  have := h.at_ i
  rw [hx] at this
  cases hy : rs[i]? with
  | none => rw [hy] at this; cases this
  | some y =>
    rw [hy] at this
    simp [sh] at this
    exact ⟨y, rfl, this.1.symm, this.2.1.symm, this.2.2.symm⟩

theorem Al.symm (h : Al fs rs) : Al rs fs := Eq.symm h

theorem Al.cnt (h : Al fs rs) (o : Int) : cnt fs o = cnt rs o := by
  have e : ∀ l : List Fr, Go.Proofs.Ytjfbanemjceimaa.cnt l o = (l.map sh).countP (fun t => t.1 == o) := fun l => by
    rw [List.countP_map]; rfl
  rw [e, e, h]

theorem Al.first (h : Al fs rs) : first fs = first rs := by
  have e : ∀ l : List Fr, Go.Proofs.Ytjfbanemjceimaa.first l = (l.map sh).findIdx? (fun t => t.1 == 0) := fun l => by
    rw [List.findIdx?_map]; rfl
  rw [e, e, h]

theorem Al.own (h : Al fs rs) (n : Int) : at0 fs Fr.own n = at0 rs Fr.own n := by
  unfold at0
  split
  · have e : ∀ o : Option Fr, o.map Fr.own = (o.map sh).map Prod.fst := fun o => by cases o <;> rfl
    rw [e, e, h.at_]
  · rfl

theorem Al.hand (h : Al fs rs) (n : Int) : at0 fs Fr.hand n = at0 rs Fr.hand n := by
  unfold at0
  split
  · have e : ∀ o : Option Fr, o.map Fr.hand = (o.map sh).map (fun t => t.2.1) := fun o => by cases o <;> rfl
    rw [e, e, h.at_]
  · rfl

theorem Al.why (h : Al fs rs) (n o : Int) : why fs n o = why rs n o := by
  unfold Go.Proofs.Ytjfbanemjceimaa.why
  rw [h.own]

theorem Al.many (h : Al fs rs) (o : Int) : many fs o = many rs o := by
  unfold Go.Proofs.Ytjfbanemjceimaa.many
  rw [h.cnt]

theorem Al.set_ (h : Al fs rs) (n : Nat) {x y : Fr} (e : sh x = sh y) : Al (fs.set n x) (rs.set n y) := by
  unfold Al at h ⊢
  rw [List.map_set, List.map_set, h, e]

theorem sh_eq {x y : Fr} (h1 : y.own = x.own) (h2 : y.hand = x.hand) (h3 : cont y = cont x) : sh x = sh y := by
  unfold sh
  rw [h1, h2, h3]

theorem Al.taken (h : Al fs rs) (n : Nat) (o : Int) : Al (taken fs n o) (taken rs n o) := by
  unfold Go.Proofs.Ytjfbanemjceimaa.taken
  cases hx : fs[n]? with
  | none =>
    have : rs[n]? = none := by
      have := h.at_ n
      rw [hx] at this
      cases hy : rs[n]? with
      | none => rfl
      | some y => rw [hy] at this; cases this
    rw [this]
    exact h
  | some x =>
    obtain ⟨y, hy, _, _, h3⟩ := h.get hx
    rw [hy]
    exact h.set_ n (sh_eq rfl rfl h3)

theorem Al.acq (h : Al fs rs) (Q : Nat) (o : Int) : (acq fs Q o).1 = (acq rs Q o).1 ∧ (acq fs Q o).2.1 = (acq rs Q o).2.1 ∧ Al (acq fs Q o).2.2 (acq rs Q o).2.2 := by
  unfold Go.Proofs.Ytjfbanemjceimaa.acq
  rw [h.cnt, h.first]
  split
  · exact ⟨rfl, rfl, h⟩
  · split
    · exact ⟨rfl, rfl, h⟩
    · split
      · exact ⟨rfl, rfl, h⟩
      · exact ⟨rfl, rfl, h.taken _ _⟩

theorem Al.retained (h : Al fs rs) (n : Nat) (o : Int) : Al (retained fs n o) (retained rs n o) := by
  rcases retained_cases fs n o with ⟨h1, h2⟩ | ⟨h1, x, hx, _, _, h2⟩ <;> rcases retained_cases rs n o with ⟨g1, g2⟩ | ⟨g1, y, hy, _, _, g2⟩
  · rw [h2, g2]; exact h
  · exact absurd ((h.why n o).trans g1) h1
  · exact absurd ((h.why n o).symm.trans h1) g1
  · obtain ⟨z, hz, e1, e2, e3⟩ := h.get hx
    rw [hy] at hz; cases hz
    rw [h2, g2]
    exact h.set_ n (sh_eq e1 (by show y.hand + 1 = x.hand + 1; rw [e2]) e3)

theorem Al.released (h : Al fs rs) (n : Nat) (o : Int) : Al (released fs n o) (released rs n o) := by
  unfold Go.Proofs.Ytjfbanemjceimaa.released
  rw [h.why]
  split
  · cases hx : fs[n]? with
    | none =>
      have : rs[n]? = none := by
        have := h.at_ n
        rw [hx] at this
        cases hy : rs[n]? with
        | none => rfl
        | some y => rw [hy] at this; cases this
      simp only [Int.toNat_natCast, hx, this]
      exact h
    | some x =>
      obtain ⟨y, hy, h1, h2, h3⟩ := h.get hx
      simp only [Int.toNat_natCast, hx, hy, h2]
      split
      · exact h.set_ n (sh_eq rfl rfl h3)
      · exact h.set_ n (sh_eq h1 rfl h3)
  · exact h

theorem Al.recl (h : Al fs rs) (o : Int) : Al (recl fs o) (recl rs o) := by
  have e : ∀ l : List Fr, (Go.Proofs.Ytjfbanemjceimaa.recl l o).map sh = (l.map sh).map (fun t => if t.1 = o ∧ 0 < o then (0, 0, t.2.2) else t) := fun l => by
    unfold Go.Proofs.Ytjfbanemjceimaa.recl
    rw [List.map_map, List.map_map]
    apply List.map_congr_left
    intro x _
    show sh (rc o x) = if x.own = o ∧ 0 < o then (0, 0, cont x) else sh x
    unfold rc
    split
    · rfl
    · rfl
  unfold Al at h ⊢
  rw [e, e, h]

theorem maded_sh (fs : List Fr) (n m : Nat) : (maded fs n m).map sh = fs.map sh := by
  unfold maded
  cases hx : fs[n]? with
  | none => rfl
  | some x =>
    show (fs.set n ⟨x.own, x.hand, some (m, cont x)⟩).map sh = _
    rw [List.map_set]
    have e : sh ⟨x.own, x.hand, some (m, cont x)⟩ = sh x := rfl
    rw [e]
    obtain ⟨hn, e2⟩ := List.getElem?_eq_some_iff.1 hx
    apply List.ext_getElem?
    intro i
    by_cases hi : i = n
    · subst hi
      rw [List.getElem?_set_self (by simpa using hn), List.getElem?_map, hx]; rfl
    · rw [List.getElem?_set_ne (fun q => hi q.symm)]

theorem Al.maded (h : Al fs rs) (n m m' : Nat) : Al (maded fs n m) (maded rs n m') := by
  unfold Al
  rw [maded_sh, maded_sh]
  exact h
end

/-- Where frames come from. -/
def Der (B : Nat) (fs' fs : List Fr) : Prop := ∀ (i : Nat) (x' : Fr), fs'[i]? = some x' → ∃ x, fs[i]? = some x ∧ cont x' = cont x ∧ ∀ (m : Nat) (cs : Array Value), x'.mem = some (m, cs) → x.mem = some (m, cs) ∨ B ≤ m

section
variable {B : Nat} {fs : List Fr}

theorem Der.refl (B : Nat) (fs : List Fr) : Der B fs fs := fun i x hx => ⟨x, hx, rfl, fun _ _ h => .inl h⟩

theorem Der.set_ (B : Nat) {n : Nat} {x y : Fr} (hx : fs[n]? = some x) (hy : y.mem = x.mem) : Der B (fs.set n y) fs := fun i z hz => by
  rcases set_get hx hz with ⟨rfl, rfl⟩ | ⟨_, h1⟩
  · exact ⟨x, hx, by unfold cont; rw [hy], fun m cs h => .inl (by rw [← hy]; exact h)⟩
  · exact ⟨z, h1, rfl, fun _ _ h => .inl h⟩

theorem Der.acq (B Q : Nat) (o : Int) : Der B (acq fs Q o).2.2 fs := by
  unfold Go.Proofs.Ytjfbanemjceimaa.acq
  split
  · exact Der.refl _ _
  · split
    · exact Der.refl _ _
    · split
      · exact Der.refl _ _
      · unfold taken
        split
        · rename_i hx
          exact Der.set_ B hx rfl
        · exact Der.refl _ _

theorem Der.retained (B n : Nat) (o : Int) : Der B (retained fs n o) fs := by
  rcases retained_cases fs n o with ⟨h1, h2⟩ | ⟨h1, x, hx, _, _, h2⟩
  · rw [h2]; exact Der.refl _ _
  · rw [h2]; exact Der.set_ B hx rfl

theorem Der.released (B n : Nat) (o : Int) : Der B (released fs n o) fs := by
  rcases released_cases fs n o with ⟨h1, h2⟩ | ⟨h1, x, y, hx, _, _, h2, _, _, h3⟩
  · rw [h2]; exact Der.refl _ _
  · rw [h2]; exact Der.set_ B hx h3

theorem Der.recl (B : Nat) (o : Int) : Der B (recl fs o) fs := fun i z hz => by
  unfold Go.Proofs.Ytjfbanemjceimaa.recl at hz
  rw [List.getElem?_map] at hz
  cases hx : fs[i]? with
  | none => rw [hx] at hz; cases hz
  | some x =>
    rw [hx] at hz
    simp at hz
    subst hz
    refine ⟨x, rfl, ?_, fun m cs h => .inl ?_⟩
    · unfold rc; split <;> rfl
    · unfold rc at h; split at h <;> exact h

theorem Der.maded {w : World} {n m : Nat} (hl : Lies w fs n m) : Der w.heap.size (maded fs n m) fs := by
  unfold Go.Proofs.Ytjfbanemjceimaa.maded
  cases hx : fs[n]? with
  | none => exact Der.refl _ _
  | some x =>
    intro i z hz
    rcases set_get hx hz with ⟨rfl, rfl⟩ | ⟨_, h1⟩
    · refine ⟨x, hx, rfl, fun m' cs h => ?_⟩
      simp at h
      obtain ⟨rfl, rfl⟩ := h
      rcases hl x hx with ⟨_, h2⟩ | ⟨cs', h2⟩
      · exact .inr h2
      · left
        have : cont x = cs' := by unfold cont; rw [h2]
        rw [h2, this]
    · exact ⟨z, h1, rfl, fun _ _ h => .inl h⟩
end

theorem Pool.keep_ {w w' : World} {p N Q T lo hi : Nat} {fs : List Fr} (h : Pool w p N Q T lo hi fs) {S : Nat → Prop} (ho : Only S w w') (hs : ∀ k, lo ≤ k → k < hi → ¬ S k) (hm : ∀ (i : Nat) (x : Fr) (m : Nat) (cs : Array Value), fs[i]? = some x → x.mem = some (m, cs) → ¬ S m) : Pool w' p N Q T lo hi fs := by
  obtain ⟨fb, ib, cap, mb, fbs, l, f, h⟩ := h
  exact ⟨fb, ib, cap, mb, fbs, l, f, h.keep ho hs hm⟩

theorem Pool.write {w : World} {p N Q T lo hi : Nat} {fs : List Fr} (h : Pool w p N Q T lo hi fs) {n m a : Nat} {x : Fr} {cs : Array Value} {v : Value} (hx : fs[n]? = some x) (hm : x.mem = some (m, cs)) :
    Pool (w.setCell ⟨m, a, none⟩ v) p N Q T lo hi (fs.set n ⟨x.own, x.hand, some (m, cs.setIfInBounds a v)⟩) := by
  obtain ⟨fb, ib, cap, mb, fbs, l, f, h⟩ := h
  obtain ⟨p1, p2, p3⟩ := h.mem n x m cs hx hm
  have hn : n < N := by have := (List.getElem?_eq_some_iff.1 hx).1; have := h.books.len; omega
  obtain ⟨b, y, hb, hy, hby, _⟩ := h.at_ hn
  rw [hx] at hy; cases hy
  have hO : Only (fun k => k = m) w (w.setCell ⟨m, a, none⟩ v) := (Only.refl (fun k => k = m) w).setOf (o := a) rfl _
  have hbm : b ≠ m := hby.ne_ p1 (by decide)
  refine ⟨fb, ib, cap, mb, fbs, l, f, h.mem_set hb hx (.inr ⟨cs, hm⟩) (hO.mono (fun k _ e => .inr e)) ?_ (p1.set_ a v) (by simpa using p2)⟩
  have := hO.blk hby hbm
  rw [hm] at this
  exact this

theorem RP.write {w : World} {q lb N Q T lo hi : Nat} {rs : List Fr} (h : RP w q lb N Q T lo hi rs) {n m a : Nat} {x : Fr} {cs : Array Value} {v : Value} (hx : rs[n]? = some x) (hm : x.mem = some (m, cs)) :
    RP (w.setCell ⟨m, a, none⟩ v) q lb N Q T lo hi (rs.set n ⟨x.own, x.hand, some (m, cs.setIfInBounds a v)⟩) := by
  obtain ⟨p1, p2, p3⟩ := h.mem n x m cs hx hm
  obtain ⟨tcs, ht, hr⟩ := h.tab
  have hO : Only (fun k => k = m) w (w.setCell ⟨m, a, none⟩ v) := (Only.refl (fun k => k = m) w).setOf (o := a) rfl _
  have hbm : lb ≠ m := ht.ne_ p1 (by decide)
  refine h.mem_set hx (.inr ⟨cs, hm⟩) (hO.mono (fun k _ e => .inr e)) ⟨tcs, hO.blk ht hbm, hr.1, fun i z hz => ?_⟩ (p1.set_ a v) (by simpa using p2)
  rcases set_get hx hz with ⟨rfl, rfl⟩ | ⟨_, h1⟩
  · have := hr.2 i x hx
    rw [hm] at this
    exact this
  · exact hr.2 i z h1

/-- PoolActs between its steps. -/
structure ActSt (w wr : World) (p q lb N Q T lo hi lo2 hi2 : Nat) (fs rs : List Fr) : Prop where
  pool : Pool wr p N Q T lo hi fs
  ref : RP wr q lb N Q T lo2 hi2 rs
  al : Al fs rs
  lo0 : w.heap.size ≤ lo
  hl : hi ≤ lo2
  kept : Kept w wr
  m1 : ∀ (i m : Nat) (x : Fr) (cs : Array Value), fs[i]? = some x → x.mem = some (m, cs) → hi2 ≤ m
  m12 : ∀ (i j m : Nat) (x y : Fr) (cs cs' : Array Value), fs[i]? = some x → rs[j]? = some y → x.mem = some (m, cs) → y.mem = some (m, cs') → False
  bts : ∀ (i : Nat) (x : Fr), fs[i]? = some x → Bts (cont x)

section
variable {w wr w1 w2 : World} {p q lb N Q T T' lo hi lo2 hi2 : Nat} {fs fs' rs rs' : List Fr}

theorem ActSt.l2 (h : ActSt w wr p q lb N Q T lo hi lo2 hi2 fs rs) : lo2 < hi2 := by have := h.ref.inq; omega

theorem ActSt.lo1 (h : ActSt w wr p q lb N Q T lo hi lo2 hi2 fs rs) : lo < hi := by
  obtain ⟨fb, ib, cap, mb, fbs, l, f, hp⟩ := h.pool
  have := hp.inp
  omega

theorem ActSt.keep (h : ActSt w wr p q lb N Q T lo hi lo2 hi2 fs rs) (ho : Kept wr w2) : ActSt w w2 p q lb N Q T lo hi lo2 hi2 fs rs :=
  { h with pool := h.pool.kept ho, ref := h.ref.kept ho, kept := h.kept.trans ho }

theorem ActSt.mono (h : ActSt w wr p q lb N Q T lo hi lo2 hi2 fs rs) (hT : T ≤ T') (hT' : T' ≤ 900000) : ActSt w wr p q lb N Q T' lo hi lo2 hi2 fs rs :=
  { h with pool := h.pool.mono hT hT', ref := h.ref.mono hT hT' }

/-- The document's pool is as it was while the pool turns. -/
theorem ActSt.ref1 (h : ActSt w wr p q lb N Q T lo hi lo2 hi2 fs rs) (ho : Only (fun k => lo ≤ k ∧ k < hi) wr w1) : RP w1 q lb N Q T lo2 hi2 rs := by
  have h1 := h.hl
  have h2 := h.l2
  exact h.ref.keep ho (fun k a b e => by omega) (fun i x m cs hx he e => by have := (h.ref.mem i x m cs hx he).2.2; omega)

/-- Both have turned, the pool first. -/
theorem ActSt.turn (h : ActSt w wr p q lb N Q T lo hi lo2 hi2 fs rs) (ho1 : Only (fun k => lo ≤ k ∧ k < hi) wr w1) (hp : Pool w1 p N Q T' lo hi fs') (d1 : Der wr.heap.size fs' fs)
    (ho2 : Only (fun k => k = lb) w1 w2) (hr : RP w2 q lb N Q T' lo2 hi2 rs') (d2 : Der w1.heap.size rs' rs) (hal : Al fs' rs') : ActSt w w2 p q lb N Q T' lo hi lo2 hi2 fs' rs' := by
  have a1 := h.hl
  have a2 := h.l2
  have a3 := h.lo0
  have a4 := h.lo1
  have a5 := h.ref.inlb
  have a6 := h.ref.hiw
  have s1 := ho1.size
  have m1 : ∀ (i m : Nat) (x : Fr) (cs : Array Value), fs'[i]? = some x → x.mem = some (m, cs) → hi2 ≤ m := fun i m x' cs hx' he => by
    obtain ⟨x, hx, _, hm⟩ := d1 i x' hx'
    rcases hm m cs he with e | e
    · exact h.m1 i m x cs hx e
    · omega
  exact
    { pool := hp.keep_ ho2 (fun k _ _ e => by omega) (fun i x m cs hx he e => by have := m1 i m x cs hx he; omega)
      ref := hr
      al := hal
      lo0 := h.lo0
      hl := h.hl
      kept := (h.kept.trans' ho1 (fun k hk e => by omega)).trans' ho2 (fun k hk e => by omega)
      m1 := m1
      m12 := fun i j m x' y' cs cs' hx' hy' he hf => by
        obtain ⟨x, hx, _, hm⟩ := d1 i x' hx'
        obtain ⟨y, hy, _, hn⟩ := d2 j y' hy'
        have g1 := (hp.memBlk hx' he).lt
        rcases hm m cs he with e | e <;> rcases hn m cs' hf with e' | e'
        · exact h.m12 i j m x y cs cs' hx hy e e'
        · omega
        · have := (h.ref.mem j y m cs' hy e').1.lt; omega
        · omega
      bts := fun i x' hx' => by
        obtain ⟨x, hx, e, _⟩ := d1 i x' hx'
        rw [e]
        exact h.bts i x hx }

/-- A byte is written on both sides. -/
theorem ActSt.wrote (h : ActSt w wr p q lb N Q T lo hi lo2 hi2 fs rs) {n m m' a : Nat} {x y : Fr} {cs : Array Value} {v : Int} (hx : fs[n]? = some x) (hm : x.mem = some (m, cs)) (hy : rs[n]? = some y) (hm' : y.mem = some (m', cs)) (ha : a < 152064) :
    ActSt w ((wr.setCell ⟨m, a, none⟩ (.int .u8 v)).setCell ⟨m', a, none⟩ (.int .u8 v)) p q lb N Q T lo hi lo2 hi2 (fs.set n ⟨x.own, x.hand, some (m, cs.setIfInBounds a (.int .u8 v))⟩) (rs.set n ⟨y.own, y.hand, some (m', cs.setIfInBounds a (.int .u8 v))⟩) := by
  have a1 := h.hl
  have a2 := h.l2
  have a3 := h.lo0
  have a4 := h.lo1
  have hmm : m ≠ m' := fun e => by subst e; exact h.m12 n n m x y cs cs hx hy hm hm'
  have g1 := h.m1 n m x cs hx hm
  have g2 := (h.ref.mem n y m' cs hy hm').2.2
  have o1 : Only (fun k => k = m) wr (wr.setCell ⟨m, a, none⟩ (.int .u8 v)) := (Only.refl (fun k => k = m) wr).setOf (o := a) rfl _
  have o2 : Only (fun k => k = m') (wr.setCell ⟨m, a, none⟩ (.int .u8 v)) ((wr.setCell ⟨m, a, none⟩ (.int .u8 v)).setCell ⟨m', a, none⟩ (.int .u8 v)) := (Only.refl (fun k => k = m') _).setOf (o := a) rfl _
  have p1 := h.pool.write (a := a) (v := .int .u8 v) hx hm
  have r1 := h.ref.keep o1 (fun k _ _ e => by omega) (fun i z m2 c2 hz he e => by subst e; exact h.m12 n i _ x z cs c2 hx hz hm he)
  have r2 := r1.write (a := a) (v := .int .u8 v) hy hm'
  have key : ∀ (i m2 : Nat) (z : Fr) (c2 : Array Value), (fs.set n ⟨x.own, x.hand, some (m, cs.setIfInBounds a (.int .u8 v))⟩)[i]? = some z → z.mem = some (m2, c2) → ∃ z0 c0, fs[i]? = some z0 ∧ z0.mem = some (m2, c0) := fun i m2 z c2 hz he => by
    rcases set_get hx hz with ⟨rfl, rfl⟩ | ⟨_, h1⟩
    · simp at he
      obtain ⟨rfl, _⟩ := he
      exact ⟨x, cs, hx, hm⟩
    · exact ⟨z, c2, h1, he⟩
  have key2 : ∀ (i m2 : Nat) (z : Fr) (c2 : Array Value), (rs.set n ⟨y.own, y.hand, some (m', cs.setIfInBounds a (.int .u8 v))⟩)[i]? = some z → z.mem = some (m2, c2) → ∃ z0 c0, rs[i]? = some z0 ∧ z0.mem = some (m2, c0) := fun i m2 z c2 hz he => by
    rcases set_get hy hz with ⟨rfl, rfl⟩ | ⟨_, h1⟩
    · simp at he
      obtain ⟨rfl, _⟩ := he
      exact ⟨y, cs, hy, hm'⟩
    · exact ⟨z, c2, h1, he⟩
  obtain ⟨y0, hy0, e1, e2, e3⟩ := h.al.get hx
  rw [hy] at hy0; cases hy0
  have hbx := h.bts n x hx
  have hcx : cont x = cs := by unfold cont; rw [hm]
  rw [hcx] at hbx
  exact
    { pool := p1.keep_ o2 (fun k _ _ e => by omega) (fun i z m2 c2 hz he e => by
        subst e
        obtain ⟨z0, c0, hz0, he0⟩ := key i _ z c2 hz he
        exact h.m12 i n _ z0 y c0 cs hz0 hy he0 hm')
      ref := r2
      al := h.al.set_ n (sh_eq e1 e2 rfl)
      lo0 := h.lo0
      hl := h.hl
      kept := (h.kept.trans' o1 (fun k hk e => by omega)).trans' o2 (fun k hk e => by omega)
      m1 := fun i m2 z c2 hz he => by obtain ⟨z0, c0, hz0, he0⟩ := key i m2 z c2 hz he; exact h.m1 i m2 z0 c0 hz0 he0
      m12 := fun i j m2 z u c2 c3 hz hu he hf => by
        obtain ⟨z0, c0, hz0, he0⟩ := key i m2 z c2 hz he
        obtain ⟨u0, c1, hu0, hf0⟩ := key2 j m2 u c3 hu hf
        exact h.m12 i j m2 z0 u0 c0 c1 hz0 hu0 he0 hf0
      bts := fun i z hz => by
        rcases set_get hx hz with ⟨rfl, rfl⟩ | ⟨_, h1⟩
        · refine ⟨by simpa [cont] using hbx.1, fun j hj => ?_⟩
          simp only [cont]
          by_cases e : j = a
          · subst e
            exact ⟨v, Array.getElem?_setIfInBounds_self_of_lt (by rw [hbx.1]; exact hj)⟩
          · rw [Array.getElem?_setIfInBounds_ne (fun q => e q.symm)]
            exact hbx.2 j hj
        · exact h.bts i z h1 }
end
end Go.Proofs.Ytjfbanemjceimaa
