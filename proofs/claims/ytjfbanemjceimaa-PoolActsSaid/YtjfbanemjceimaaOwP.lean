/- PoolOwn: what holds between its steps. -/
import Derived.Test.YtjfbanemjceimaaKno
import Derived.Test.YtjfbanemjceimaaPick
namespace Go.Proofs.Ytjfbanemjceimaa
open Go.RowKit Go.Maps
set_option linter.unusedVariables false
set_option linter.unusedSimpArgs false
set_option linter.unnecessarySimpa false

def Z1 : Array Value := madeCells #[.int .u8 0] 1000

theorem Z1_size : Z1.size = 1000 := size_madeCells _ _
theorem Z1_get (i : Nat) (h : i < 1000) : Z1[i]? = some (.int .u8 0) := madeCells_one _ _ i h

theorem make_want (w : World) : (Instr.makeSlice 35 (.int .i64 1000) (.int .i64 1000)).run Try.prog w = .ok (.slice (some ⟨w.heap.size, 0, none⟩) 1000 1000) (w.alloc (.cells Z1 5)) := by
  obtain ⟨i0, hi, hz0, hz1, hz2⟩ := info_parts (show (Try.prog.info? 5).map (fun i => (i.zero, i.size, i.bytes)) = some (some (.int .u8 0), 1, 1) by kernel_rfl)
  have h := run_make_rowN (P := Try.prog) 35 5 i0 _ Try.underlying35 hi hz0 .i64 .i64 1000 1000 (Nat.le_refl _) (by rw [hz2]; omega) (by omega) w
  rw [hz1] at h
  exact h

/-- The frames ahead of k are a's, the others nobody's. -/
def Owns (fs : List Fr) (k : Nat) (a : Int) : Prop := ∀ (i : Nat) (x : Fr), fs[i]? = some x → x.own = if i < k then a else 0

theorem cnt_owns : ∀ (fs : List Fr) (k : Nat) (a : Int), a ≠ 0 → k ≤ fs.length → Owns fs k a → cnt fs a = k
  | [], k, a, _, hk, _ => by simp at hk; subst hk; rfl
  | x :: l, k, a, ha, hk, ho => by
    have h0 := ho 0 x rfl
    have hl : Owns l (k - 1) a := fun i y hy => by
      have := ho (i + 1) y (by simpa using hy)
      rw [this]
      by_cases e : i + 1 < k
      · rw [if_pos e, if_pos (by omega)]
      · rw [if_neg e, if_neg (by omega)]
    have ih := cnt_owns l (k - 1) a ha (by simp at hk; omega) hl
    unfold cnt at ih ⊢
    rw [List.countP_cons, ih]
    by_cases e : 0 < k
    · rw [if_pos e] at h0
      simp [h0]; omega
    · rw [if_neg e] at h0
      have ha' : ¬ ((0 : Int) = a) := fun q => ha q.symm
      rw [h0]
      simp [ha']; omega

theorem first_owns {fs : List Fr} {k : Nat} {a : Int} (ha : a ≠ 0) (hk : k < fs.length) (ho : Owns fs k a) : first fs = some k := by
  unfold first
  rw [List.findIdx?_eq_some_iff_getElem]
  refine ⟨hk, ?_, fun j hj => ?_⟩
  · have := ho k fs[k] (List.getElem?_eq_getElem hk)
    rw [if_neg (by omega)] at this
    simp [this]
  · have := ho j (fs[j]'(by omega)) (List.getElem?_eq_getElem _)
    rw [if_pos hj] at this
    simp [this, ha]

theorem acq_owns {fs : List Fr} {k N : Nat} {a : Int} (h1 : 1 ≤ a) (h2 : a ≤ 2147483647) (hl : fs.length = N) (hk : k < N) (ho : Owns fs k a) : acq fs N a = ((k : Int), 0, taken fs k a) := by
  unfold acq
  rw [if_neg (by omega), cnt_owns fs k a (by omega) (by omega) ho, if_neg (by omega), first_owns (by omega) (by omega) ho]

/-- The rows that are wanted: a table of N slices at wb, each of 1000 bytes. -/
structure Wnt (w : World) (wb N hi : Nat) (ws : List (Nat × Array Value)) : Prop where
  hib : hi ≤ wb
  tab : ∃ cs, Blk w wb 35 cs ∧ cs.size = N ∧ ∀ (i g : Nat) (c : Array Value), ws[i]? = some (g, c) → cs[i]? = some (.slice (some ⟨g, 0, none⟩) 1000 1000)
  row : ∀ (i g : Nat) (c : Array Value), ws[i]? = some (g, c) → Blk w g 5 c ∧ c.size = 1000 ∧ hi ≤ g
  inj : ∀ (i j g : Nat) (c d : Array Value), ws[i]? = some (g, c) → ws[j]? = some (g, d) → i = j

theorem Wnt.only {w w' : World} {wb N lo hi : Nat} {ws : List (Nat × Array Value)} (h : Wnt w wb N hi ws) {S : Nat → Prop} (ho : Only S w w') (hs : ∀ k, hi ≤ k → ¬ S k) : Wnt w' wb N hi ws := by
  obtain ⟨h1, ⟨cs, a1, a2, a3⟩, h3, h4⟩ := h
  exact ⟨h1, ⟨cs, ho.blk a1 (hs _ h1), a2, a3⟩, fun i g c hc => by obtain ⟨b1, b2, b3⟩ := h3 i g c hc; exact ⟨ho.blk b1 (hs _ b3), b2, b3⟩, h4⟩

/-- PoolOwn between its steps: w: the world ahead of it. -/
structure OwnSt (w wr : World) (p N T lo hi wb k : Nat) (a : Int) (fs : List Fr) (ws : List (Nat × Array Value)) : Prop where
  pool : Pool wr p N N T lo hi fs
  lo0 : w.heap.size ≤ lo
  lohi : lo ≤ hi
  kept : Kept w wr
  wnt : Wnt wr wb N hi ws
  lenN : fs.length = N
  owns : Owns fs k a
  mems : ∀ (i m : Nat) (x : Fr) (cs : Array Value), fs[i]? = some x → x.mem = some (m, cs) → w.heap.size ≤ m ∧ ∀ (j g : Nat) (c : Array Value), ws[j]? = some (g, c) → g ≠ m
  bts : ∀ (i : Nat) (x : Fr), fs[i]? = some x → Bts (cont x)
  same : ∀ (i g : Nat) (x : Fr) (c : Array Value), fs[i]? = some x → ws[i]? = some (g, c) → ∀ j, j < 1000 → (cont x)[j]? = c[j]?

section
variable {w wr w2 : World} {p N T T' lo hi wb k k' : Nat} {a a' : Int} {fs fs' : List Fr} {ws : List (Nat × Array Value)}

/-- The pool alone has turned. -/
theorem OwnSt.turn (h : OwnSt w wr p N T lo hi wb k a fs ws) (ho : Only (fun q => lo ≤ q ∧ q < hi) wr w2) (hp : Pool w2 p N N T' lo hi fs') (hl : fs'.length = fs.length)
    (hc : ∀ (i : Nat) (x' : Fr), fs'[i]? = some x' → ∃ x, fs[i]? = some x ∧ cont x' = cont x ∧ ∀ (m : Nat) (cs : Array Value), x'.mem = some (m, cs) → x.mem = some (m, cs) ∨ wr.heap.size ≤ m)
    (hown : Owns fs' k' a') : OwnSt w w2 p N T' lo hi wb k' a' fs' ws where
  pool := hp
  lo0 := h.lo0
  lohi := h.lohi
  kept := h.kept.trans' ho (fun q hq e => by have := h.lo0; omega)
  wnt := h.wnt.only (lo := lo) ho (fun q hq e => by omega)
  lenN := hl.trans h.lenN
  owns := hown
  mems := fun i m x' cs hx' he => by
    obtain ⟨x, hx, _, hm⟩ := hc i x' hx'
    rcases hm m cs he with h1 | h1
    · exact h.mems i m x cs hx h1
    · refine ⟨by have := h.kept.size; omega, fun j g c hg e => ?_⟩
      have := (h.wnt.row j g c hg).1.lt
      omega
  bts := fun i x' hx' => by
    obtain ⟨x, hx, he, _⟩ := hc i x' hx'
    rw [he]; exact h.bts i x hx
  same := fun i g x' c hx' hg => by
    obtain ⟨x, hx, he, _⟩ := hc i x' hx'
    rw [he]; exact h.same i g x c hx hg

theorem set_get {α : Type} {l : List α} {n i : Nat} {x y z : α} (hx : l[n]? = some x) (h : (l.set n y)[i]? = some z) : (i = n ∧ z = y) ∨ (i ≠ n ∧ l[i]? = some z) := by
  by_cases e : i = n
  · subst e
    rw [List.getElem?_set_self (List.getElem?_eq_some_iff.1 hx).1] at h
    cases h
    exact .inl ⟨rfl, rfl⟩
  · rw [List.getElem?_set_ne (fun q => e q.symm)] at h
    exact .inr ⟨e, h⟩

theorem OwnSt.acquired (h : OwnSt w wr p N T lo hi wb k a fs ws) (hk : k < N) (ha : a ≠ 0) (ho : Only (fun q => lo ≤ q ∧ q < hi) wr w2) (hp : Pool w2 p N N T' lo hi (taken fs k a)) : OwnSt w w2 p N T' lo hi wb (k + 1) a (taken fs k a) ws := by
  obtain ⟨x, hx⟩ : ∃ x, fs[k]? = some x := ⟨_, List.getElem?_eq_getElem (by have := h.lenN; omega)⟩
  have e : taken fs k a = fs.set k ⟨a, 1, x.mem⟩ := by unfold taken; rw [hx]
  rw [e] at hp ⊢
  refine h.turn ho hp (by simp) (fun i x' hx' => ?_) (fun i x' hx' => ?_)
  · rcases set_get hx hx' with ⟨rfl, rfl⟩ | ⟨e1, h1⟩
    · exact ⟨x, hx, rfl, fun m cs hm => .inl hm⟩
    · exact ⟨x', h1, rfl, fun m cs hm => .inl hm⟩
  · rcases set_get hx hx' with ⟨rfl, rfl⟩ | ⟨e1, h1⟩
    · rw [if_pos (by omega)]
    · rw [h.owns i x' h1]
      by_cases e2 : i < k
      · rw [if_pos e2, if_pos (by omega)]
      · rw [if_neg e2, if_neg (by omega)]

theorem OwnSt.maded (h : OwnSt w wr p N T lo hi wb k a fs ws) {n m : Nat} (ho : Only (fun q => lo ≤ q ∧ q < hi) wr w2) (hl : Lies wr fs n m) (hp : Pool w2 p N N T' lo hi (maded fs n m)) : OwnSt w w2 p N T' lo hi wb k a (maded fs n m) ws := by
  cases hx : fs[n]? with
  | none =>
    have e : Go.Proofs.Ytjfbanemjceimaa.maded fs n m = fs := by unfold Go.Proofs.Ytjfbanemjceimaa.maded; rw [hx]
    rw [e] at hp ⊢
    exact h.turn ho hp rfl (fun i x' hx' => ⟨x', hx', rfl, fun m cs hm => .inl hm⟩) h.owns
  | some x =>
    have e : Go.Proofs.Ytjfbanemjceimaa.maded fs n m = fs.set n ⟨x.own, x.hand, some (m, cont x)⟩ := by unfold Go.Proofs.Ytjfbanemjceimaa.maded; rw [hx]
    rw [e] at hp ⊢
    refine h.turn ho hp (by simp) (fun i x' hx' => ?_) (fun i x' hx' => ?_)
    · rcases set_get hx hx' with ⟨rfl, rfl⟩ | ⟨e1, h1⟩
      · refine ⟨x, hx, rfl, fun m' cs hm => ?_⟩
        simp at hm
        obtain ⟨rfl, rfl⟩ := hm
        rcases hl x hx with ⟨_, h2⟩ | ⟨cs, h2⟩
        · exact .inr h2
        · left
          have : cont x = cs := by unfold cont; rw [h2]
          rw [h2, this]
      · exact ⟨x', h1, rfl, fun m cs hm => .inl hm⟩
    · rcases set_get hx hx' with ⟨rfl, rfl⟩ | ⟨e1, h1⟩
      · exact h.owns i x hx
      · exact h.owns i x' h1

theorem OwnSt.reclaimed (h : OwnSt w wr p N T lo hi wb N a fs ws) (ha : 0 < a) (ho : Only (fun q => lo ≤ q ∧ q < hi) wr w2) (hp : Pool w2 p N N T' lo hi (recl fs a)) (b : Int) : OwnSt w w2 p N T' lo hi wb 0 b (recl fs a) ws := by
  have key : ∀ (i : Nat) (x' : Fr), (recl fs a)[i]? = some x' → ∃ x, fs[i]? = some x ∧ x' = ⟨0, 0, x.mem⟩ := fun i x' hx' => by
    unfold recl at hx'
    rw [List.getElem?_map] at hx'
    cases hx : fs[i]? with
    | none => rw [hx] at hx'; cases hx'
    | some x =>
      rw [hx] at hx'
      have hi : i < N := by have := (List.getElem?_eq_some_iff.1 hx).1; have := h.lenN; omega
      have hw := h.owns i x hx
      rw [if_pos hi] at hw
      simp [rc, hw, ha] at hx'
      exact ⟨x, rfl, hx'.symm⟩
  refine h.turn ho hp (by simp [recl]) (fun i x' hx' => ?_) (fun i x' hx' => ?_)
  · obtain ⟨x, hx, rfl⟩ := key i x' hx'
    exact ⟨x, hx, rfl, fun m cs hm => .inl hm⟩
  · obtain ⟨x, hx, rfl⟩ := key i x' hx'
    simp

theorem many_owns (h : OwnSt w wr p N T lo hi wb N a fs ws) (ha : 0 < a) : many fs a = N := by
  unfold many
  rw [if_pos ha, cnt_owns fs N a (by omega) (by have := h.lenN; omega) h.owns]

/-- One row more is wanted. -/
theorem OwnSt.row_ (h : OwnSt w wr p N T lo hi wb k a fs ws) (hlen : ws.length < N) (hz : ∀ (i : Nat) (x : Fr), fs[i]? = some x → x.mem = none) :
    OwnSt w ((wr.setCell ⟨wb, ws.length, none⟩ (.slice (some ⟨wr.heap.size, 0, none⟩) 1000 1000)).alloc (.cells Z1 5)) p N T lo hi wb k a fs (ws ++ [(wr.heap.size, Z1)]) := by
  obtain ⟨cs, a1, a2, a3⟩ := h.wnt.tab
  have hhi := h.pool.hiw
  have hO : Only (fun q => q = wb) wr ((wr.setCell ⟨wb, ws.length, none⟩ (.slice (some ⟨wr.heap.size, 0, none⟩) 1000 1000)).alloc (.cells Z1 5)) := ((Only.refl (fun q => q = wb) wr).setOf (o := ws.length) rfl _).alloc _
  have hsz : (wr.setCell ⟨wb, ws.length, none⟩ (.slice (some ⟨wr.heap.size, 0, none⟩) 1000 1000)).heap.size = wr.heap.size := by simp [World.setCell]
  have hnew := Blk.new (wr.setCell ⟨wb, ws.length, none⟩ (.slice (some ⟨wr.heap.size, 0, none⟩) 1000 1000)) 5 Z1
  rw [hsz] at hnew
  have hb := h.wnt.hib
  have hl := h.lo0
  have hlh := h.lohi
  have hgo : ∀ (i g : Nat) (c : Array Value), (ws ++ [(wr.heap.size, Z1)])[i]? = some (g, c) → (ws[i]? = some (g, c)) ∨ (i = ws.length ∧ g = wr.heap.size ∧ c = Z1) := fun i g c hc => by
    by_cases e : i < ws.length
    · rw [List.getElem?_append_left e] at hc
      exact .inl hc
    · have hi := (List.getElem?_eq_some_iff.1 hc).1
      simp at hi
      obtain rfl : i = ws.length := by omega
      rw [List.getElem?_append_right (Nat.le_refl _)] at hc
      simp at hc
      exact .inr ⟨rfl, hc.1.symm, hc.2.symm⟩
  obtain ⟨fb, ib, cap, mb, fbs, l, f, hpl⟩ := h.pool
  exact
    { pool := ⟨fb, ib, cap, mb, fbs, l, f, hpl.keep hO (fun q h1 h2 e => by omega) (fun i x m cs hx he => by rw [hz i x hx] at he; cases he)⟩
      lo0 := hl
      lohi := hlh
      kept := h.kept.trans' hO (fun q hq e => by omega)
      wnt := ⟨hb, ⟨_, (a1.set_ ws.length _).alloc _, by simpa using a2, fun i g c hc => by
          rcases hgo i g c hc with h1 | ⟨rfl, rfl, rfl⟩
          · rw [Array.getElem?_setIfInBounds_ne (by have := (List.getElem?_eq_some_iff.1 h1).1; omega)]
            exact a3 i g c h1
          · exact Array.getElem?_setIfInBounds_self_of_lt (by omega)⟩,
        fun i g c hc => by
          rcases hgo i g c hc with h1 | ⟨rfl, rfl, rfl⟩
          · obtain ⟨b1, b2, b3⟩ := h.wnt.row i g c h1
            exact ⟨hO.blk b1 (a1.ne_ b1 (by decide) ∘ Eq.symm), b2, b3⟩
          · exact ⟨hnew, Z1_size, hhi⟩,
        fun i j g c d hc hd => by
          rcases hgo i g c hc with h1 | ⟨rfl, rfl, rfl⟩ <;> rcases hgo j _ d hd with h2 | ⟨rfl, e2, rfl⟩
          · exact h.wnt.inj i j g c d h1 h2
          · have := (h.wnt.row i g c h1).1.lt; omega
          · have := (h.wnt.row j _ d h2).1.lt; omega
          · rfl⟩
      lenN := h.lenN
      owns := h.owns
      mems := fun i m x cs hx he => by rw [hz i x hx] at he; cases he
      bts := h.bts
      same := fun i g x c hx hg j hj => by
        rcases hgo i g c hg with h1 | ⟨rfl, rfl, rfl⟩
        · exact h.same i g x c hx h1 j hj
        · have : cont x = Z0 := by unfold cont; rw [hz _ x hx]
          rw [this, Z0_get j (by omega), Z1_get j hj] }

/-- A byte is written, and wanted. -/
theorem OwnSt.wrote (h : OwnSt w wr p N T lo hi wb k a fs ws) {n m at_ g : Nat} {x : Fr} {c cs : Array Value} {v : Int} (hx : fs[n]? = some x) (hm : x.mem = some (m, cs)) (hg : ws[n]? = some (g, c)) (hat : at_ < 1000)
    (ho : Only (fun q => q = m ∨ q = g) wr w2) (hm2 : Blk w2 m 5 (cs.setIfInBounds at_ (.int .u8 v))) (hg2 : Blk w2 g 5 (c.setIfInBounds at_ (.int .u8 v))) :
    OwnSt w w2 p N T lo hi wb k a (fs.set n ⟨x.own, x.hand, some (m, cs.setIfInBounds at_ (.int .u8 v))⟩) (ws.set n (g, c.setIfInBounds at_ (.int .u8 v))) := by
  have hhi := h.pool.hiw
  have hcx : cont x = cs := by unfold cont; rw [hm]
  have hbt := h.bts n x hx
  rw [hcx] at hbt
  obtain ⟨c1, c2, c3⟩ := h.wnt.row n g c hg
  obtain ⟨m1, m2⟩ := h.mems n m x cs hx hm
  have hgm := m2 n g c hg
  obtain ⟨t1, a1, a2, a3⟩ := h.wnt.tab
  obtain ⟨fb, ib, cap, mb, fbs, l, f, hpl⟩ := h.pool
  obtain ⟨p1, p2, p3⟩ := hpl.mem n x m cs hx hm
  have hn : n < N := by have := (List.getElem?_eq_some_iff.1 hx).1; have := h.lenN; omega
  obtain ⟨b, y, hb, hy, hby, _⟩ := hpl.at_ hn
  rw [hx] at hy; cases hy
  have hO1 : Only (fun q => q = m ∨ q = g) wr w2 := ho
  have hgb : g ≠ b := c1.ne_ hby (by decide)
  have hmb : m ≠ b := p1.ne_ hby (by decide)
  -- the pool: as if the row that is wanted were written first
  have hpool : PL w2 p fb ib cap mb T N N lo hi fbs (fs.set n ⟨x.own, x.hand, some (m, cs.setIfInBounds at_ (.int .u8 v))⟩) l f := by
    have hmid : PL (wr.setCell ⟨g, at_, none⟩ (.int .u8 v)) p fb ib cap mb T N N lo hi fbs fs l f :=
      hpl.keep ((Only.refl (fun q => q = g) wr).setOf (o := at_) rfl _) (fun q h1 h2 e => by omega) (fun i x' m' cs' hx' he e => by
        have := (h.mems i m' x' cs' hx' he).2 n g c hg
        exact this e.symm)
    have hg1 : Blk (wr.setCell ⟨g, at_, none⟩ (.int .u8 v)) g 5 (c.setIfInBounds at_ (.int .u8 v)) := c1.set_ at_ _
    have ho2 : Only (fun q => q = b ∨ q = m) (wr.setCell ⟨g, at_, none⟩ (.int .u8 v)) w2 := by
      refine ⟨ho.os, ho.tape, ho.output, by have := ho.size; simpa [World.setCell] using this, fun q hq hn => ?_⟩
      by_cases e : q = g
      · subst e
        exact hg2.trans hg1.symm
      · rw [ho.block q (by simpa [World.setCell] using hq) (fun e2 => e2.elim (fun e2 => hn (.inr e2)) e)]
        exact (Below.heap_setCell wr ⟨g, at_, none⟩ (.int .u8 v) q e).symm
    refine hmid.mem_set hb hx (.inr ⟨cs, hm⟩) ho2 ?_ hm2 (by simpa using p2)
    have hb1 := ho.blk hby (fun e => e.elim (fun e => hmb e.symm) (fun e => hgb e.symm))
    rw [hm] at hb1
    exact hb1
  have hgset : ∀ (i g' : Nat) (c' : Array Value), (ws.set n (g, c.setIfInBounds at_ (.int .u8 v)))[i]? = some (g', c') → (i = n ∧ g' = g ∧ c' = c.setIfInBounds at_ (.int .u8 v)) ∨ (i ≠ n ∧ ws[i]? = some (g', c')) := fun i g' c' hc => by
    rcases set_get hg hc with ⟨e1, e2⟩ | h1
    · injection e2 with e2 e3
      exact .inl ⟨e1, e2, e3⟩
    · exact .inr h1
  exact
    { pool := ⟨fb, ib, cap, mb, fbs, l, f, hpool⟩
      lo0 := h.lo0
      lohi := h.lohi
      kept := h.kept.trans' ho (fun q hq e => by have := h.lo0; have := h.lohi; omega)
      wnt := ⟨h.wnt.hib, ⟨t1, ho.blk a1 (fun e => e.elim (fun e => a1.ne_ p1 (by decide) e) (fun e => a1.ne_ c1 (by decide) e)), a2, fun i g' c' hc => by
          rcases hgset i g' c' hc with ⟨rfl, rfl, rfl⟩ | ⟨_, h1⟩
          · exact a3 _ _ c hg
          · exact a3 i g' c' h1⟩,
        fun i g' c' hc => by
          rcases hgset i g' c' hc with ⟨rfl, rfl, rfl⟩ | ⟨e, h1⟩
          · exact ⟨hg2, by simpa using c2, c3⟩
          · obtain ⟨b1, b2, b3⟩ := h.wnt.row i g' c' h1
            refine ⟨ho.blk b1 (fun e2 => e2.elim (fun e2 => m2 i g' c' h1 e2) (fun e2 => ?_)), b2, b3⟩
            subst e2
            exact e (h.wnt.inj i n _ _ _ h1 hg),
        fun i j g' c' d' hc hd => by
          rcases hgset i g' c' hc with ⟨rfl, rfl, rfl⟩ | ⟨e, h1⟩ <;> rcases hgset j g' d' hd with ⟨rfl, e2, rfl⟩ | ⟨e', h2⟩
          · rfl
          · exact h.wnt.inj _ _ _ _ _ hg h2
          · subst e2; exact h.wnt.inj _ _ _ _ _ h1 hg
          · exact h.wnt.inj _ _ _ _ _ h1 h2⟩
      lenN := by simpa using h.lenN
      owns := fun i x' hx' => by
        rcases set_get hx hx' with ⟨rfl, rfl⟩ | ⟨e1, h1⟩
        · exact h.owns i x hx
        · exact h.owns i x' h1
      mems := fun i m' x' cs' hx' he => by
        have hws : ∀ (j g' : Nat) (c' : Array Value), (ws.set n (g, c.setIfInBounds at_ (.int .u8 v)))[j]? = some (g', c') → ∃ c0, ws[j]? = some (g', c0) := fun j g' c' hc => by
          rcases hgset j g' c' hc with ⟨rfl, rfl, rfl⟩ | ⟨_, h1⟩
          · exact ⟨c, hg⟩
          · exact ⟨c', h1⟩
        have hm' : ∃ y cs0, fs[i]? = some y ∧ y.mem = some (m', cs0) := by
          rcases set_get hx hx' with ⟨rfl, rfl⟩ | ⟨e1, h1⟩
          · simp at he
            obtain ⟨rfl, _⟩ := he
            exact ⟨x, cs, hx, hm⟩
          · exact ⟨x', cs', h1, he⟩
        obtain ⟨y, cs0, hy, hym⟩ := hm'
        obtain ⟨q1, q2⟩ := h.mems i m' y cs0 hy hym
        exact ⟨q1, fun j g' c' hc => by obtain ⟨c0, hc0⟩ := hws j g' c' hc; exact q2 j g' c0 hc0⟩
      bts := fun i x' hx' => by
        rcases set_get hx hx' with ⟨rfl, rfl⟩ | ⟨e1, h1⟩
        · refine ⟨by simpa [cont] using hbt.1, fun j hj => ?_⟩
          simp only [cont]
          by_cases e : j = at_
          · subst e
            exact ⟨v, Array.getElem?_setIfInBounds_self_of_lt (by rw [hbt.1]; exact hj)⟩
          · rw [Array.getElem?_setIfInBounds_ne (fun q => e q.symm)]
            exact hbt.2 j hj
        · exact h.bts i x' h1
      same := fun i g' x' c' hx' hc j hj => by
        rcases set_get hx hx' with ⟨rfl, rfl⟩ | ⟨e1, h1⟩ <;> rcases hgset i g' c' hc with ⟨e2, rfl, rfl⟩ | ⟨e2, h2⟩
        · have hs := h.same _ g' x c hx hg j hj
          rw [hcx] at hs
          simp only [cont]
          by_cases e : j = at_
          · subst e
            rw [Array.getElem?_setIfInBounds_self_of_lt (by rw [hbt.1]; omega), Array.getElem?_setIfInBounds_self_of_lt (by rw [c2]; omega)]
          · rw [Array.getElem?_setIfInBounds_ne (fun q => e q.symm), Array.getElem?_setIfInBounds_ne (fun q => e q.symm)]
            exact hs
        · exact absurd rfl e2
        · exact absurd e2 e1
        · exact h.same i g' x' c' h1 h2 j hj }
end
end Go.Proofs.Ytjfbanemjceimaa
