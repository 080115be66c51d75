/- New makes a pool. -/
import Derived.Laws.MakeOwn
import Derived.Deep.AppendLies
import Derived.Test.YtjfbanemjceimaaPlD
namespace Go.Proofs.Ytjfbanemjceimaa
open Go.RowKit Go.Maps
set_option linter.unusedVariables false
set_option linter.unusedSimpArgs false
set_option linter.unnecessarySimpa false

theorem pnew_no (n q : Int) (w : World) (h : n < 1 ∨ 64 < n ∨ q < 1 ∨ n < q) :
    Calls Try.prog 20 #[.int .i64 n, .int .i64 q] w fun e w' => e = .returned (.tuple #[.pointer none, .int .i64 3]) ∧ w = w' := by
  by_cases h1 : n < 1
  · go_enter Try.func20, Try.ntmps20
    go_wp2_with fail
    go_returns
    exact ⟨rfl, rfl⟩
  · by_cases h2 : 64 < n
    · go_enter Try.func20, Try.ntmps20
      go_wp2_with fail
      go_returns
      exact ⟨rfl, rfl⟩
    · by_cases h3 : q < 1
      · go_enter Try.func20, Try.ntmps20
        go_wp2_with fail
        go_returns
        exact ⟨rfl, rfl⟩
      · have h4 : n < q := by omega
        go_enter Try.func20, Try.ntmps20
        go_wp2_with fail
        go_returns
        exact ⟨rfl, rfl⟩

theorem grownBy_cell (W : World) (b o : Nat) (v : Value) : W.grownBy (W.setCell ⟨b, o, none⟩ v) (some b) :=
  ⟨rfl, rfl, rfl, by simp [World.setCell], fun k hk hn => Below.heap_setCell W _ v k (fun e => hn (by rw [e]))⟩

theorem run_make_rowN {P : Program} (t e : TypeId) (i : TypeInfo) (z : Value) (ht : P.underlying t = some (.slice e)) (hi : P.info? e = some i) (hz : i.zero = some z)
    (kl kc : IntKind) (n c : Nat) (hnc : n ≤ c) (hbytes : i.bytes * c ≤ 281474976710656) (h63 : c ≤ 9223372036854775807) (w : World) :
    (Instr.makeSlice t (.int kl (n : Int)) (.int kc (c : Int))).run P w = .ok (.slice (some ⟨w.heap.size, 0, none⟩) n c) (w.alloc (.cells (madeCells z.cells (c * i.size)) e)) := by
  have hb : (i.bytes : Int) * (c : Int) ≤ 281474976710656 := by
    have h : ((i.bytes * c : Nat) : Int) ≤ 281474976710656 := by omega
    rwa [Int.natCast_mul] at h
  have hr := run_make (P := P) w t e i z ht hi hz kl kc n c (by omega) (by omega) hb (by omega)
  simp only [Int.toNat_natCast] at hr
  exact hr

/-- The numbers below k. -/
def nums (k : Nat) : List Value := (List.range k).map fun (i : Nat) => Value.int .i64 (i : Int)

/-- The pool that New is at, k frames made. -/
structure NewAt (w wr : World) (p fb mb N Q k : Nat) (vi : Value) (fbs : List Nat) : Prop where
  box : Blk wr p 30 #[.slice (some ⟨fb, 0, none⟩) N N, vi, .map (some mb), .int .i64 (Q : Int)]
  tab : ∃ cs, Blk wr fb 63 cs ∧ cs.size = N ∧ ∀ (i b : Nat), fbs[i]? = some b → cs[i]? = some (.pointer (some ⟨b, 0, none⟩))
  len : fbs.length = k
  fr : ∀ (i b : Nat), fbs[i]? = some b → Blk wr b 65 #[.int .i64 0, .int .i64 0, .slice none 0 0] ∧ w.heap.size ≤ b
  inj : ∀ (i j b : Nat), fbs[i]? = some b → fbs[j]? = some b → i = j
  row : wr.ownsRow w.heap.size 3 1 vi k (nums k)
  map : HM wr mb 0 (fun _ => 0)
  kept : Kept w wr
  lop : w.heap.size ≤ p
  lof : w.heap.size ≤ fb
  lom : w.heap.size ≤ mb

theorem nums_snoc (k : Nat) : nums k ++ [.int .i64 (k : Int)] = nums (k + 1) := by
  unfold nums
  rw [List.range_succ, List.map_append]
  rfl

/-- One frame more. -/
theorem NewAt.step {w wr w5 : World} {p fb mb N Q k : Nat} {vi : Value} {fbs : List Nat} (h : NewAt w wr p fb mb N Q k vi fbs) (hk : k < N) {g5 cp5 : Nat}
    (hown : w5.ownsRow w.heap.size 3 1 (.slice (some ⟨g5, 0, none⟩) (k + 1) cp5) (k + 1) (nums k ++ [.int .i64 (k : Int)]))
    (hg : (((wr.setCell ⟨fb, k, none⟩ (.pointer (some ⟨wr.heap.size, 0, none⟩))).alloc (.cells #[.int .i64 0, .int .i64 0, .slice none 0 0] 65)).alloc (.cells #[.int .i64 (k : Int)] 3)).grownBy w5 vi.ownBlock)
    (hat : vi.ownBlock = some g5 ∨ wr.heap.size < g5) :
    NewAt w (w5.setCell ⟨p, 1, none⟩ (.slice (some ⟨g5, 0, none⟩) (k + 1) cp5)) p fb mb N Q (k + 1) (.slice (some ⟨g5, 0, none⟩) (k + 1) cp5) (fbs ++ [wr.heap.size]) := by
  obtain ⟨tc, ht1, ht2, ht3⟩ := h.tab
  have hvo : ∀ q, vi.ownBlock = some q → w.heap.size ≤ q ∧ ∃ cur, Blk wr q 3 cur := by
    intro q hq
    rcases h.row.2 with ⟨rfl, _⟩ | ⟨g, cap, cur, rfl, hg, hgb, _⟩
    · cases hq
    · simp only [Value.ownBlock, Option.some.injEq] at hq
      have e' : g = q := hq
      subst e'
      exact ⟨hg, cur, hgb⟩
  have hne : ∀ {q : Nat} {t : TypeId} {cs : Array Value}, Blk wr q t cs → t ≠ 3 → ¬ vi.ownBlock = some q := by
    intro q t cs hq ht e
    obtain ⟨_, cur, hc⟩ := hvo q e
    exact hq.ne_ hc ht rfl
  have hpf : p ≠ fb := h.box.ne_ ht1 (by decide)
  have hws := h.kept.size
  have hO : Only (fun q => q = fb ∨ vi.ownBlock = some q ∨ q = p) wr (w5.setCell ⟨p, 1, none⟩ (.slice (some ⟨g5, 0, none⟩) (k + 1) cp5)) :=
    (((((Only.refl (fun q => q = fb ∨ vi.ownBlock = some q ∨ q = p) wr).setOf (o := k) (.inl rfl) _).alloc _).alloc _).grown hg (fun q hq _ => .inr (.inl hq))).setOf (o := 1) (.inr (.inr rfl)) _
  have hnew : Blk (w5.setCell ⟨p, 1, none⟩ (.slice (some ⟨g5, 0, none⟩) (k + 1) cp5)) wr.heap.size 65 #[.int .i64 0, .int .i64 0, .slice none 0 0] := by
    have h1 := Blk.new (wr.setCell ⟨fb, k, none⟩ (.pointer (some ⟨wr.heap.size, 0, none⟩))) 65 #[.int .i64 0, .int .i64 0, .slice none 0 0]
    rw [show (wr.setCell ⟨fb, k, none⟩ (.pointer (some ⟨wr.heap.size, 0, none⟩))).heap.size = wr.heap.size by simp [World.setCell]] at h1
    refine ((h1.alloc _).grown hg (fun e => ?_)).far' (by have := h.box.lt; omega) _
    obtain ⟨_, cur, hc⟩ := hvo _ e.symm
    have := hc.lt
    omega
  have hb5 : Blk w5 p 30 #[.slice (some ⟨fb, 0, none⟩) N N, vi, .map (some mb), .int .i64 (Q : Int)] := (((h.box.far' hpf _).alloc _).alloc _).grown hg (fun e => hne h.box (by decide) e.symm)
  have ht5 : Blk w5 fb 63 (tc.setIfInBounds k (.pointer (some ⟨wr.heap.size, 0, none⟩))) := (((ht1.set_ k _).alloc _).alloc _).grown hg (fun e => hne ht1 (by decide) e.symm)
  refine ⟨by simpa using hb5.set_ 1 (.slice (some ⟨g5, 0, none⟩) (k + 1) cp5), ⟨_, ht5.far' hpf.symm _, by simpa using ht2, ?_⟩, by simp [h.len], ?_, ?_, ?_, ?_, ?_, h.lop, h.lof, h.lom⟩
  · intro i b hb
    by_cases e : i < k
    · rw [List.getElem?_append_left (by rw [h.len]; exact e)] at hb
      rw [Array.getElem?_setIfInBounds_ne (by omega)]
      exact ht3 i b hb
    · have hi := (List.getElem?_eq_some_iff.1 hb).1
      simp [h.len] at hi
      obtain rfl : i = k := by omega
      rw [List.getElem?_append_right (by rw [h.len]; omega), h.len] at hb
      simp at hb
      subst hb
      exact Array.getElem?_setIfInBounds_self_of_lt (by omega)
  · intro i b hb
    by_cases e : i < k
    · rw [List.getElem?_append_left (by rw [h.len]; exact e)] at hb
      obtain ⟨h1, h2⟩ := h.fr i b hb
      refine ⟨hO.blk h1 ?_, h2⟩
      rintro (g | g | g)
      · exact h1.ne_ ht1 (by decide) g
      · exact hne h1 (by decide) g
      · exact h1.ne_ h.box (by decide) g
    · have hi := (List.getElem?_eq_some_iff.1 hb).1
      simp [h.len] at hi
      obtain rfl : i = k := by omega
      rw [List.getElem?_append_right (by rw [h.len]; omega), h.len] at hb
      simp at hb
      subst hb
      exact ⟨hnew, hws⟩
  · have key : ∀ (i b : Nat), (fbs ++ [wr.heap.size])[i]? = some b → (i < k ∧ fbs[i]? = some b ∧ b < wr.heap.size) ∨ (i = k ∧ b = wr.heap.size) := by
      intro i b hb
      by_cases e : i < k
      · rw [List.getElem?_append_left (by rw [h.len]; exact e)] at hb
        exact .inl ⟨e, hb, (h.fr i b hb).1.lt⟩
      · have hi := (List.getElem?_eq_some_iff.1 hb).1
        simp [h.len] at hi
        obtain rfl : i = k := by omega
        rw [List.getElem?_append_right (by rw [h.len]; omega), h.len] at hb
        simp at hb
        exact .inr ⟨rfl, hb.symm⟩
    intro i j b hi hj
    rcases key i b hi with ⟨a1, a2, a3⟩ | ⟨a1, a2⟩ <;> rcases key j b hj with ⟨b1, b2, b3⟩ | ⟨b1, b2⟩
    · exact h.inj i j b a2 b2
    · omega
    · omega
    · omega
  · rw [← nums_snoc]
    refine hown.kept (grownBy_cell _ p 1 _) (.inr (fun e => ?_))
    simp only [Value.ownBlock, Option.some.injEq] at e
    have e' : g5 = p := e
    subst e'
    rcases hat with h1 | h1
    · exact hne h.box (by decide) h1
    · have := h.box.lt; omega
  · refine h.map.keep hO ?_
    rintro (g | g | g)
    · exact h.map.ne_ ht1 g.symm
    · obtain ⟨_, cur, hc⟩ := hvo _ g
      exact h.map.ne_ hc rfl
    · exact h.map.ne_ h.box g.symm
  · refine h.kept.trans' hO ?_
    rintro q hq (g | g | g)
    · have := h.lof; omega
    · have := (hvo q g).1; omega
    · have := h.lop; omega

theorem books_new (N : Nat) : Books N 0 (List.replicate N ⟨0, 0, none⟩) (List.range N) (fun _ => 0) := by
  have hr : ∀ (i : Nat) (x : Fr), (List.replicate N (⟨0, 0, none⟩ : Fr))[i]? = some x → i < N ∧ x = ⟨0, 0, none⟩ := by
    intro i x hx
    rw [List.getElem?_replicate] at hx
    split at hx
    · cases hx; exact ⟨by assumption, rfl⟩
    · cases hx
  refine ⟨by simp, List.nodup_range, fun i => ?_, fun o => ?_, fun i x hx => ?_⟩
  · rw [List.mem_range]
    constructor
    · intro hi
      exact ⟨⟨0, 0, none⟩, by rw [List.getElem?_replicate, if_pos hi], rfl⟩
    · rintro ⟨x, hx, _⟩
      exact (hr i x hx).1
  · by_cases h : 0 < o
    · rw [if_pos h]
      unfold cnt
      rw [List.countP_replicate, if_neg (by simp; omega)]
      rfl
    · rw [if_neg h]
  · obtain ⟨_, rfl⟩ := hr i x hx
    exact ⟨by simp, by simp, by simp, by simp, by simp⟩

theorem NewAt.done {w wr : World} {p fb mb N Q : Nat} {vi : Value} {fbs : List Nat} (h : NewAt w wr p fb mb N Q N vi fbs) (hN : 1 ≤ N) (hN2 : N ≤ 64) (hQ : 1 ≤ Q) (hQN : Q ≤ N) :
    ∃ ib cap l, PL wr p fb ib cap mb 0 N Q w.heap.size wr.heap.size fbs (List.replicate N ⟨0, 0, none⟩) l (fun _ => 0) := by
  have hr : ∀ (i : Nat) (x : Fr), (List.replicate N (⟨0, 0, none⟩ : Fr))[i]? = some x → x = ⟨0, 0, none⟩ := by
    intro i x hx
    rw [List.getElem?_replicate] at hx
    split at hx
    · cases hx; rfl
    · cases hx
  rcases h.row.2 with ⟨_, h0⟩ | ⟨g, cap, cur, rfl, hgl, hgb, hnc, hcm, hcs, htake⟩
  · omega
  obtain ⟨tc, ht1, ht2, ht3⟩ := h.tab
  have htc : tc = ptrs fbs := by
    have hs : (ptrs fbs).size = N := by unfold ptrs; simp [h.len]
    apply Array.ext_getElem?
    intro i
    by_cases hi : i < N
    · obtain ⟨b, hb⟩ : ∃ b, fbs[i]? = some b := ⟨_, List.getElem?_eq_getElem (by rw [h.len]; exact hi)⟩
      rw [ht3 i b hb, ptrs_get hb]
    · rw [Array.getElem?_eq_none (by omega), Array.getElem?_eq_none (by omega)]
  refine ⟨g, cap, List.range N, ?_⟩
  exact
    { idle := ⟨by simpa using h.box, ⟨cur, hgb, by simpa using hcs, fun i x hx => by
        have hi : i < N := by have := (List.getElem?_eq_some_iff.1 hx).1; simpa using this
        have hx' : x = i := by
          have := (List.getElem?_eq_some_iff.1 hx).2
          simpa using this.symm
        subst hx'
        have e1 : (nums N)[x]? = some (.int .i64 (x : Int)) := by unfold nums; simp [hi]
        rw [← htake, List.getElem?_take, if_pos (by omega)] at e1
        simpa using e1⟩, by simpa using hnc, fun i h0 hi => by
          have hi' : i < N := by simpa using hi
          have e1 : (List.range N)[i]? = some i := List.getElem?_range hi'
          have e2 : (List.range N)[(i - 1) / 2]? = some ((i - 1) / 2) := List.getElem?_range (by omega)
          rw [kk_at nk e1, kk_at nk e2]
          unfold nk
          omega, by simp; omega⟩
      capN := hnc
      tab := by rw [← htc]; exact ht1
      n1 := h.len
      fr := fun i b x hb hx => by
        obtain rfl := hr i x hx
        exact (h.fr i b hb).1
      mem := fun i x m cs hx he => by
        obtain rfl := hr i x hx
        cases he
      map := h.map
      inj := h.inj
      minj := fun i j x y m cs cs' hx hy he => by
        obtain rfl := hr i x hx
        cases he
      inp := ⟨h.lop, h.box.lt⟩
      infb := ⟨h.lof, ht1.lt⟩
      inib := ⟨hgl, Blk.lt (w := wr) hgb⟩
      inmb := ⟨h.lom, h.map.lt⟩
      infr := fun i b hb => ⟨(h.fr i b hb).2, (h.fr i b hb).1.lt⟩
      hiw := Nat.le_refl _
      N1 := hN
      N64 := hN2
      Q1 := hQ
      QN := hQN
      T1 := by omega
      books := books_new N }

set_option maxHeartbeats 2000000 in
theorem pnew_ok (N Q : Nat) (w : World) (hN : 1 ≤ N) (hN2 : N ≤ 64) (hQ : 1 ≤ Q) (hQN : Q ≤ N) :
    Calls Try.prog 20 #[.int .i64 N, .int .i64 Q] w fun e w' => ∃ p fb ib cap mb fbs l, e = .returned (.tuple #[.pointer (some ⟨p, 0, none⟩), .int .i64 0]) ∧ Kept w w' ∧
      PL w' p fb ib cap mb 0 N Q w.heap.size w'.heap.size fbs (List.replicate N ⟨0, 0, none⟩) l (fun _ => 0) := by
  obtain ⟨i0, hi, hz0, hz1, hz2⟩ := info_parts (show (Try.prog.info? 63).map (fun i => (i.zero, i.size, i.bytes)) = some (some (.pointer none), 1, 8) by kernel_rfl)
  obtain ⟨i3, hi3, h30, h31, h32⟩ := info_parts (show (Try.prog.info? 3).map (fun i => (i.zero, i.size, i.bytes)) = some (some (.int .i64 0), 1, 8) by kernel_rfl)
  have hms := fun W => run_make_rowN (P := Try.prog) 25 63 i0 _ Try.underlying25 hi hz0 .i64 .i64 N N (Nat.le_refl _) (by rw [hz2]; omega) (by omega) W
  rw [hz1] at hms
  have hmk := @run_makeMap Try.prog
  clear hi hz0 hz1 hz2
  have hNQ : decide (N < Q) = false := decide_eq_false (by omega)
  go_enter Try.func20, Try.ntmps20
  go_wp2_with fail
  have h0 : NewAt w (((w.alloc (.cells (madeCells #[.pointer none] N) 63)).alloc (.map #[] 0)).alloc (.cells #[.slice (some ⟨w.heap.size, 0, none⟩) N N, .slice none 0 0, .map (some (w.heap.size + 1)), .int .i64 (Q : Int)] 30)) (w.heap.size + 1 + 1) w.heap.size (w.heap.size + 1) N Q 0 (.slice none 0 0) [] := by
    refine ⟨?_, ⟨_, ((Blk.new w 63 (madeCells #[.pointer none] N)).alloc _).alloc _, size_madeCells _ _, fun i b h => by simp at h⟩, rfl, fun i b h => by simp at h, fun i j b h => by simp at h, World.ownsRow_nil _ _ _ _, ?_, ((((Only.refl (fun _ => False) w).alloc _).alloc _).alloc _), by omega, by omega, by omega⟩
    · have := Blk.new ((w.alloc (.cells (madeCells #[.pointer none] N) 63)).alloc (.map #[] 0)) 30 #[.slice (some ⟨w.heap.size, 0, none⟩) N N, .slice none 0 0, .map (some (w.heap.size + 1)), .int .i64 (Q : Int)]
      simpa using this
    · have := HM.made (w.alloc (.cells (madeCells #[.pointer none] N) 63))
      rw [show (w.alloc (.cells (madeCells #[.pointer none] N) 63)).heap.size = w.heap.size + 1 by simp] at this
      exact this.keep ((Only.refl (fun _ => False) _).alloc _) (fun f => f)
  have H0 := Lib.hid h0
  clear h0
  generalize (((w.alloc (.cells (madeCells #[.pointer none] N) 63)).alloc (.map #[] 0)).alloc (.cells #[.slice (some ⟨w.heap.size, 0, none⟩) N N, .slice none 0 0, .map (some (w.heap.size + 1)), .int .i64 (Q : Int)] 30)) = W0 at *
  generalize w.heap.size + 1 + 1 = p at *
  generalize w.heap.size + 1 = mb at *
  obtain ⟨fb, hfb⟩ : ∃ fb, w.heap.size = fb := ⟨_, rfl⟩
  rw [hfb] at H0 ⊢
  go_loopw [30] (fun v wr => ∃ (k : Nat) (vi : Value) (fbs : List Nat), v = .int .i64 k ∧ k ≤ N ∧ NewAt w wr p fb mb N Q k vi fbs) (fun v _ => N - (intOf v).toNat)
  case atStart => exact ⟨0, _, _, rfl, by omega, H0.out⟩
  case round =>
    obtain ⟨k, vi, fbs, rfl, hk, hst⟩ := hrel
    have H := Lib.hid hst
    by_cases hkn : k < N
    · have k0 := hst.box.cell 0
      have k1 := hst.box.cell 1
      have z1 := hst.box.frozen 1
      simp at k0 k1
      obtain ⟨tc, ht1, ht2, ht3⟩ := hst.tab
      obtain ⟨v0, f0⟩ : ∃ v, wr.cell? ⟨fb, k, none⟩ = some v := ⟨_, (ht1.cell k).trans (Array.getElem?_eq_getElem (by omega))⟩
      have y0 := ht1.frozen k
      have hlp := hst.box.lt
      have hlf := ht1.lt
      have hpf : p ≠ fb := hst.box.ne_ ht1 (by decide)
      have hvf : vi.ownBlock = none ∨ vi.ownBlock ≠ some fb := by
        rcases hst.row.2 with ⟨rfl, _⟩ | ⟨g, cap, cur, rfl, hg, hgb, _⟩
        · exact .inl rfl
        · right
          intro e
          simp only [Value.ownBlock, Option.some.injEq] at e
          have e' : g = fb := e
          subst e'
          exact absurd rfl (Blk.ne_ (w := wr) hgb ht1 (by decide))
      have hvp : ∀ q, vi.ownBlock = some q → q ≠ p := by
        intro q hq e
        subst e
        rcases hst.row.2 with ⟨rfl, _⟩ | ⟨g, cap, cur, rfl, hg, hgb, _⟩
        · cases hq
        · simp only [Value.ownBlock, Option.some.injEq] at hq
          have e' : g = q := hq
          subst e'
          exact absurd rfl (Blk.ne_ (w := wr) hgb hst.box (by decide))
      have hrow1 : ((wr.setCell ⟨fb, k, none⟩ (.pointer (some ⟨wr.heap.size, 0, none⟩))).alloc (.cells #[.int .i64 0, .int .i64 0, .slice none 0 0] 65)).ownsRow w.heap.size 3 1 vi k (nums k) := (hst.row.kept (grownBy_cell _ fb k _) hvf).alloc _
      have hbox1 : Blk ((wr.setCell ⟨fb, k, none⟩ (.pointer (some ⟨wr.heap.size, 0, none⟩))).alloc (.cells #[.int .i64 0, .int .i64 0, .slice none 0 0] 65)) p 30 #[.slice (some ⟨fb, 0, none⟩) N N, vi, .map (some mb), .int .i64 (Q : Int)] := (hst.box.far' hpf _).alloc _
      have HR1 := Lib.hid hrow1
      have HB1 := Lib.hid hbox1
      have HT1 := Lib.hid ht1
      have hws := hst.kept.size
      have HV := Lib.hid hvp
      have HT3 := Lib.hid ht3
      clear hst hrow1 hbox1 ht1 hvp ht3
      have HVF := Lib.hid hvf
      clear hvf
      go_wp2_with (at_builtin; refine wpList_append_lies _ rfl _ _ 27 rfl w.heap.size 3 i3 (.int .i64 0) 1 8 Try.underlying27 hi3 h30 h31 h32 rfl (by decide) _ _ _ rfl (HR1.out.alloc _) ⟨wr.heap.size + 1, 0, none⟩ 1 1 [.int .i64 (k : Int)] rfl rfl (by intro j u hu; have := (Blk.new ((wr.setCell ⟨fb, k, none⟩ (.pointer (some ⟨wr.heap.size, 0, none⟩))).alloc (.cells #[.int .i64 0, .int .i64 0, .slice none 0 0] 65)) 3 #[.int .i64 (k : Int)]).cell j; cases j with | zero => simpa [Addr.add] using this.trans hu | succ j => simp at hu) (by intro u hu; simp at hu; subst hu; rfl) (by decide) (by unfold maxLen; omega) (by omega) (by simp; omega) _ rfl ?_; intro g5 cp5 w5 hown5 hgrow5 hat5 hlt5; have hb5 := (HB1.out.alloc (.cells #[.int .i64 (k : Int)] 3)).grown hgrow5 (fun e => HV.out p e.symm rfl); have q1 := hb5.cell 1; have q2 := hb5.frozen 1; simp at q1; have HB5 := Lib.hid hb5; have HO5 := Lib.hid hown5; have HG5 := Lib.hid hgrow5; clear hb5 hown5 hgrow5)
      go_roundw
      case rel => exact ⟨k + 1, _, _, by go_num, by omega, H.out.step hkn HO5.out HG5.out (hat5.imp id (fun e => by rw [e]; simp; omega))⟩
      case measure => simp [intOf]; omega
    · have hkN : k = N := by omega
      subst hkN
      clear hst
      go_wp2_with fail
      go_returns
      obtain ⟨g, cap, l, hpl⟩ := H.out.done hN hN2 hQ hQN
      exact ⟨p, fb, g, cap, mb, fbs, l, rfl, H.out.kept, hpl⟩
end Go.Proofs.Ytjfbanemjceimaa
