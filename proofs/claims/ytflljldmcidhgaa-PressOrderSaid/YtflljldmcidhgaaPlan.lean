/- Plan. -/
import Derived.Test.YtflljldmcidhgaaVic
namespace Go.Proofs.Ytflljldmcidhgaa
open Go.RowKit Go.Shelf
set_option linter.unusedVariables false
set_option linter.unusedSimpArgs false
set_option linter.unnecessarySimpa false
attribute [local go_sem] Oper.semAt_some

/-- Who is driven out, f being free, so that w are. -/
def plan : List Hd → Int → Int → List Hd
  | [], _, _ => []
  | x :: V, f, w => if w ≤ f then [] else x :: plan V (f + x.fr) w

theorem sumfr_cons (x : Hd) (l : List Hd) : sumfr (x :: l) = x.fr + sumfr l := by simp [sumfr]

/-- As far as it is not enough yet. -/
def Short (f want : Int) (pre : List Hd) : Prop := ∀ q : List Hd, q <+: pre → q ≠ pre → f + sumfr q < want

theorem short_cons {f want : Int} {x : Hd} {pre : List Hd} (h : Short f want (x :: pre)) : f < want ∧ Short (f + x.fr) want pre := by
  refine ⟨by have := h [] (List.nil_prefix) (by simp); simpa [sumfr] using this, fun q hq hne => ?_⟩
  have := h (x :: q) ((List.prefix_cons_inj x).2 hq) (by simpa using hne)
  rw [sumfr_cons] at this
  omega

theorem plan_is : ∀ (V pre : List Hd) (f want : Int), pre <+: V → Short f want pre → (pre = V ∨ want ≤ f + sumfr pre) → plan V f want = pre
  | [], pre, f, want, hp, _, _ => by
    obtain rfl := List.prefix_nil.1 hp
    rfl
  | x :: V, [], f, want, _, _, he => by
    rcases he with he | he
    · cases he
    · simp [sumfr] at he
      unfold plan
      rw [if_pos he]
  | x :: V, y :: pre, f, want, hp, hs, he => by
    obtain ⟨rfl, hp'⟩ := List.cons_prefix_cons.1 hp
    obtain ⟨h1, h2⟩ := short_cons hs
    unfold plan
    rw [if_neg (by omega), plan_is V pre (f + y.fr) want hp' h2 ?_]
    rcases he with he | he
    · injection he with _ he; exact .inl he
    · rw [sumfr_cons] at he; exact .inr (by omega)

theorem short_snoc {f want : Int} {pre : List Hd} (x : Hd) (h : Short f want pre) (hlt : f + sumfr pre < want) : Short f want (pre ++ [x]) := by
  intro q hq hne
  rcases List.prefix_concat_iff.1 hq with h1 | h1
  · exact absurd h1 hne
  · by_cases e : q = pre
    · subst e; exact hlt
    · exact h q h1 e

/-- Frames of some, that are all holders. -/
theorem sumfr_some {l : List Hd} (h : ∀ x ∈ l, Hok x) : 0 ≤ sumfr l ∧ sumfr l ≤ 64 * l.length := by
  induction l with
  | nil => simp [sumfr]
  | cons x l ih =>
    have h1 := h x (by simp)
    have h2 := ih (fun y hy => h y (by simp [hy]))
    rw [sumfr_cons]
    obtain ⟨_, _, a, b⟩ := h1
    simp
    omega

theorem own3_ne {w : World} {base n p : Nat} {v : Value} {xs : List Value} {cs : Array Value} (h : w.ownsRow base 3 1 v n xs) (hb : Blk w p 27 cs) : v.ownBlock ≠ some p := by
  intro e
  rcases h.2 with ⟨rfl, _⟩ | ⟨g, cap, cur, rfl, hg, hgb, _⟩
  · cases e
  · simp only [Value.ownBlock, Option.some.injEq] at e
    have e' : g = p := e
    subst e'
    exact absurd rfl (Blk.ne_ (w := w) hb hgb (by decide))

theorem own_blk {w : World} {base n k : Nat} {v : Value} {xs : List Value} (h : w.ownsRow base 3 1 v n xs) (e : v.ownBlock = some k) : ∃ cs, Blk w k 3 cs := by
  rcases h.2 with ⟨rfl, _⟩ | ⟨g, cap, cur, rfl, hg, hgb, _⟩
  · cases e
  · simp only [Value.ownBlock, Option.some.injEq] at e
    have e' : g = k := e
    subst e'
    exact ⟨cur, hgb⟩

theorem own_base {w : World} {base base' e size n : Nat} {v : Value} {xs : List Value} (h : w.ownsRow base e size v n xs) (hb : base' ≤ base) : w.ownsRow base' e size v n xs := by
  refine ⟨h.1, h.2.imp id ?_⟩
  rintro ⟨g, cp, cur, e1, e2, e3⟩
  exact ⟨g, cp, cur, e1, by omega, e3⟩

theorem own_cells {w : World} {base n : Nat} {v : Value} {xs : List Value} (h : w.ownsRow base 3 1 v n xs) : ∀ (j : Nat) (o : Obj), v.ownBlock = some j → w.heap[j]? = some o → o.isCells = true := by
  intro j o e ho
  obtain ⟨cs, hcs⟩ := own_blk h e
  unfold Blk at hcs
  rw [hcs] at ho
  cases ho
  rfl

theorem it_not {B k : Nat} {w : World} {t : TypeId} {cs : Array Value} (h : IT B w k) (hb : Blk w k t cs) (ht : t ≠ 41 ∧ t ≠ 50) : False := by
  obtain ⟨_, cs', t', h', ht'⟩ := h
  unfold Blk at hb h'
  rw [hb] at h'
  injection h' with h'
  injection h' with _ h'
  rcases ht' with e | e
  · exact ht.1 (h'.trans e)
  · exact ht.2 (h'.trans e)

/-- Between two rounds of Plan's loop. -/
def PI (w : World) (r s : Nat) (f want : Int) (pre : List Hd) (W : World) : Prop :=
  ∃ v, Blk W r 3 #[.int .i64 (f + sumfr pre)] ∧ Blk W (r + 1) 3 #[.int .i64 want] ∧ Blk W s 27 #[v] ∧ W.ownsRow s 3 1 v pre.length ((pre.map Hd.id).map (Value.int .i64)) ∧ Short f want pre ∧ Kept w W
/-- Its loop was left. -/
def PX (w : World) (r s : Nat) (f want : Int) (cd : Code) (xs : List Hd) (W : World) : Prop :=
  cd = .exit 0 ∧ ∃ pre x, xs = pre ++ [x] ∧ PI w r s f want pre W ∧ want ≤ f + sumfr pre

theorem calm_own {B base n : Nat} {X X' : World} {v : Value} {xs : List Value} (h : X.ownsRow base 3 1 v n xs) (ho : Only (IT B X) X X') : X'.ownsRow base 3 1 v n xs := by
  refine ⟨h.1, h.2.imp id ?_⟩
  rintro ⟨g, cp, cur, e1, e2, e3, e4⟩
  exact ⟨g, cp, cur, e1, e2, calm_blk (q := g) e3 (by decide) ho, e4⟩
theorem put_own {base n k : Nat} {X : World} {v : Value} {xs : List Value} {o o' : Obj} (h : X.ownsRow base 3 1 v n xs) (hk : X.heap[k]? = some o) (hc : o.isCells = false) : (X.putObj k o').ownsRow base 3 1 v n xs := by
  refine ⟨h.1, h.2.imp id ?_⟩
  rintro ⟨g, cp, cur, e1, e2, e3, e4⟩
  exact ⟨g, cp, cur, e1, e2, put_blk (q := g) e3 hk hc, e4⟩

theorem PI.step {w : World} {r s B : Nat} {f want : Int} {pre : List Hd} {X X' : World} (h : PI w r s f want pre X) (hB : w.heap.size ≤ B) (ho : Only (IT B X) X X') : PI w r s f want pre X' := by
  obtain ⟨v, h1, h2, h3, h4, h5, h6⟩ := h
  exact ⟨v, calm_blk h1 (by decide) ho, calm_blk h2 (by decide) ho, calm_blk h3 (by decide) ho, calm_own h4 ho, h5, calm_kept h6 hB ho⟩
theorem PI.put {w : World} {r s k : Nat} {f want : Int} {pre : List Hd} {X : World} {o : Obj} (h : PI w r s f want pre X) (hk : w.heap.size ≤ k) (hx : X.heap[k]? = some o) (hc : o.isCells = false) (o' : Obj) : PI w r s f want pre (X.putObj k o') := by
  obtain ⟨v, h1, h2, h3, h4, h5, h6⟩ := h
  exact ⟨v, put_blk h1 hx hc, put_blk h2 hx hc, put_blk h3 hx hc, put_own h4 hx hc, h5, put_kept h6 hk o'⟩

theorem PI.calm {w : World} {r s B : Nat} {f want : Int} (hB : w.heap.size ≤ B) (pre : List Hd) : Calm B (PI w r s f want pre) :=
  ⟨fun X X' h ho => h.step hB ho, fun X k o o' h hk hx hc => h.put (by omega) hx hc o'⟩
theorem PX.calm {w : World} {r s B : Nat} {f want : Int} (hB : w.heap.size ≤ B) (cd : Code) (xs : List Hd) : Calm B (PX w r s f want cd xs) :=
  ⟨fun X X' ⟨h0, pre, x, h1, h2, h3⟩ ho => ⟨h0, pre, x, h1, h2.step hB ho, h3⟩, fun X k o o' ⟨h0, pre, x, h1, h2, h3⟩ hk hx hc => ⟨h0, pre, x, h1, h2.put (by omega) hx hc o', h3⟩⟩

theorem plan_bad (A : Option Addr) (n c : Nat) (hs : List Hd) (f want : Int) (w : World) (hn : hs.length = n) (hb : n ≤ 9223372036854775807) (hL : Hs w A hs) (hg : ¬ (Good hs ∧ 0 ≤ f ∧ f ≤ 10000 ∧ 0 ≤ want ∧ want ≤ 10000)) :
    Calls Try.prog 11 #[.slice A n c, .int .i64 f, .int .i64 want] w fun e w' => e = .returned (.tuple #[.slice none 0 0, .int .i64 0, .int .i64 2]) ∧ Kept w w' := by
  have hck := check_calls A n c hs ((w.alloc (.cells #[.int .i64 f] 3)).alloc (.cells #[.int .i64 want] 3)) hn hb (hL.kept (((Only.refl (fun _ => False) w).alloc _).alloc _))
  by_cases hG : Good hs
  · rw [chk_good hG] at hck
    have HC := Lib.hid hck
    have hor : f < 0 ∨ 10000 < f ∨ want < 0 ∨ 10000 < want := by
      refine Classical.byContradiction fun h => hg ⟨hG, by omega, by omega, by omega, by omega⟩
    clear hck hn hL hg hG
    go_enter Try.func11, Try.ntmps11
    go_wp2_with fail
    refine HC.out.mono ?_
    rintro e w1 ⟨rfl, hk1⟩
    have B2 := hk1.blk ((Blk.new w 3 #[.int .i64 f]).alloc (.cells #[.int .i64 want] 3)) (fun f => f)
    have B3 := hk1.blk (Blk.new (w.alloc (.cells #[.int .i64 f] 3)) 3 #[.int .i64 want]) (fun f => f)
    have HK1 := Lib.hid ((((Only.refl (fun _ => False) w).alloc (.cells #[.int .i64 f] 3)).alloc (.cells #[.int .i64 want] 3)).trans hk1)
    simp only [World.size_alloc] at B3
    have k2 := B2.cell 0
    have k3 := B3.cell 0
    simp at k2 k3
    clear hk1 B2 B3 HC
    by_cases b1 : f < 0
    · go_wp2_with fail
      go_returns
      exact ⟨rfl, HK1.out⟩
    by_cases b2 : 10000 < f
    · go_wp2_with fail
      go_returns
      exact ⟨rfl, HK1.out⟩
    by_cases b3 : want < 0
    · go_wp2_with fail
      go_returns
      exact ⟨rfl, HK1.out⟩
    have b4 : 10000 < want := by omega
    go_wp2_with fail
    go_returns
    exact ⟨rfl, HK1.out⟩
  · rw [chk_bad hG] at hck
    have HC := Lib.hid hck
    clear hck hn hL hg hG
    go_enter Try.func11, Try.ntmps11
    go_wp2_with fail
    refine HC.out.mono ?_
    rintro e w1 ⟨rfl, hk1⟩
    have HK1 := Lib.hid ((((Only.refl (fun _ => False) w).alloc (.cells #[.int .i64 f] 3)).alloc (.cells #[.int .i64 want] 3)).trans hk1)
    clear hk1
    go_wp2_with fail
    go_returns
    exact ⟨rfl, HK1.out⟩

set_option maxRecDepth 100000 in
set_option maxHeartbeats 4000000 in
theorem plan_in (A : Option Addr) (n c : Nat) (hs V : List Hd) (f want : Int) (w : World) (hn : hs.length = n) (hb : n ≤ 9223372036854775807) (hL : Hs w A hs) (hg : Good hs) (hf1 : 0 ≤ f) (hf2 : f ≤ 10000) (hw1 : 0 ≤ want) (hw2 : want ≤ 10000)
    (hbd : ∀ x ∈ hs, x.id ≤ 9223372036854775807) (hV : (full hs).Perm V) (hVs : V.Pairwise (fun a b => kh a < kh b)) :
    CallsIn Fence.wide 3 Try.prog 11 #[.slice A n c, .int .i64 f, .int .i64 want] w fun e w' => ∃ v, e = .returned (.tuple #[v, .int .i64 (f + sumfr (plan V f want)), .int .i64 0]) ∧
      w'.ownsRow w.heap.size 3 1 v (plan V f want).length (((plan V f want).map Hd.id).map (Value.int .i64)) ∧ Kept w w' := by
  obtain ⟨i3, hi3, h30, h31, h32⟩ := info_parts (show (Try.prog.info? 3).map (fun i => (i.zero, i.size, i.bytes)) = some (some (.int .i64 0), 1, 8) by kernel_rfl)
  have hck := check_calls A n c hs ((w.alloc (.cells #[.int .i64 f] 3)).alloc (.cells #[.int .i64 want] 3)) hn hb (hL.kept (((Only.refl (fun _ => False) w).alloc _).alloc _))
  rw [chk_good hg] at hck
  have hok := good_ok hg hbd
  have h64 := hg.1
  rw [hn] at h64
  -- the victims are holders, and few
  have hVok : ∀ x ∈ V, Hok x := fun x hx => hok x (List.mem_filter.1 (hV.mem_iff.2 hx)).1
  have hVlen : V.length ≤ 64 := by
    have h1 := hV.length_eq
    have h2 := List.length_filter_le (fun x : Hd => decide (0 < x.fr)) hs
    unfold full at h1
    omega
  have HC := Lib.hid hck
  have HN := Lib.hid hn
  have HL := Lib.hid hL
  have HOK := Lib.hid hok
  have HV := Lib.hid hV
  have HVS := Lib.hid hVs
  have HVO := Lib.hid hVok
  have HVL := Lib.hid hVlen
  have hF14 : Fence.wide.fn 14 := trivial
  have hF26 : Fence.wide.fn 26 := trivial
  have hd1 : decide (f < 0) = false := decide_eq_false (by omega)
  have hd2 : decide (10000 < f) = false := decide_eq_false (by omega)
  have hd3 : decide (want < 0) = false := decide_eq_false (by omega)
  have hd4 : decide (10000 < want) = false := decide_eq_false (by omega)
  have B2 := (Blk.new w 3 #[.int .i64 f]).alloc (.cells #[.int .i64 want] 3)
  have B3 := Blk.new (w.alloc (.cells #[.int .i64 f] 3)) 3 #[.int .i64 want]
  simp only [World.size_alloc] at B3
  have HB2 := Lib.hid B2
  have HB3 := Lib.hid B3
  clear hck hn hL hg hbd hok hV hVs hVok hVlen B2 B3
  refine callsIn_of_wp_marks Try.func11 rfl trivial ?_ rfl
  simp only [Try.ntmps11, List.size_toArray, List.length_cons, List.length_nil, Nat.reduceAdd, Nat.reduceSub, Array.replicate_succ, Array.replicate_zero, List.push_toArray, List.append_toArray, List.nil_append, List.cons_append]
  gi_wp2_with (gi_at_call 14; refine (callsIn_wide.2 HC.out).mono ?_; rintro e w1 ⟨rfl, hk1⟩; have HK1 := Lib.hid hk1; have k2 := (hk1.blk HB2.out (fun f => f)).cell 0; have k3 := (hk1.blk HB3.out (fun f => f)).cell 0; simp at k2 k3; clear hk1)
  refine (callsIn_wide.2 (victims_calls A n c _)).mono ?_
  rintro e w2 ⟨rfl, hw2⟩
  have hK0 : Kept w ((w.alloc (.cells #[.int .i64 f] 3)).alloc (.cells #[.int .i64 want] 3)) := (((Only.refl (fun _ => False) w).alloc _).alloc _)
  have hK1 : Kept w w1 := hK0.trans HK1.out
  have hK2 : Kept w w2 := by rw [← hw2]; exact (hK1.alloc _).alloc _
  have hBn : w2.cell? ⟨(w1.alloc (.cells #[.slice none 0 0] 27)).heap.size, 0, none⟩ = some (.slice A n c) := by rw [← hw2]; exact (Blk.new (w1.alloc (.cells #[.slice none 0 0] 27)) 22 #[.slice A n c]).cell 0
  have hL2 := HL.out.kept hK2
  have B4' : Blk w2 w.heap.size 3 #[.int .i64 f] := by rw [← hw2]; exact ((HK1.out.blk HB2.out (fun f => f)).alloc _).alloc _
  have B5' : Blk w2 (w.heap.size + 1) 3 #[.int .i64 want] := by rw [← hw2]; exact ((HK1.out.blk HB3.out (fun f => f)).alloc _).alloc _
  have B9' : Blk w2 w1.heap.size 27 #[.slice none 0 0] := by rw [← hw2]; exact (Blk.new w1 27 #[.slice none 0 0]).alloc _
  obtain ⟨s, hs'⟩ : ∃ s, w1.heap.size = s := ⟨_, rfl⟩
  obtain ⟨r, hr⟩ : ∃ r, w.heap.size = r := ⟨_, rfl⟩
  obtain ⟨q, hq⟩ : ∃ q, (w1.alloc (.cells #[.slice none 0 0] 27)).heap.size = q := ⟨_, rfl⟩
  have hs2 := hK2.size
  have hrs : r + 1 < s := by
    have h1 := HK1.out.size
    simp at h1
    omega
  rw [hq] at hBn ⊢
  have h0 : PI w r s f want [] w2 := ⟨.slice none 0 0, by rw [← hr]; simpa [sumfr] using B4', by rw [← hr]; exact B5', by rw [← hs']; exact B9', World.ownsRow_nil _ _ _ _, fun q hq hne => absurd (List.prefix_nil.1 hq) hne, hK2⟩
  rw [hr, hs'] at ⊢
  have H0 := Lib.hid h0
  have HBn := Lib.hid hBn
  have HL2 := Lib.hid hL2
  have HR := Lib.hid hr
  have HS2 := Lib.hid hs2
  clear B4' B5' B9' hK0 hK1 hK2 hBn hL2 hq hw2 h0 hr hs2 hs' HK1 HC HL HB2 HB3 k2 k3
  gi_wp2
  refine range_vics (m := 1) HN.out h64 HOK.out HV.out HVS.out (Bn := q) (c := c) (A := A) rfl HBn.out HL2.out rfl (PI w r s f want) (PX w r s f want) (PI.calm HS2.out) (PX.calm HS2.out) H0.out
    (fun x => { tmps := #[.slice A n c, .int .i64 f, .int .i64 want, undef, .pointer (some ⟨r, 0, none⟩), .pointer (some ⟨r + 1, 0, none⟩), .slice none 0 0, .int .i64 0, .int .i64 0, .pointer (some ⟨s, 0, none⟩), .int .i64 x.id, .int .i64 x.fr, .slice A n c, .int .i64 0, .bool false, .bool false, .int .i64 f, .bool false, .bool false, .bool false, .int .i64 f, .bool false, .bool false, .bool false, .int .i64 want, .bool false, .bool false, .bool false, .int .i64 want, .bool false, .bool false, .slice A n c, .func (.func 29) #[] #[.pointer (some ⟨q, 0, none⟩)], .int .i64 x.id, .int .i64 x.fr, undef, undef, undef, undef, undef, undef, undef, undef, undef, undef, undef, undef], defers := [] })
    ?assign ?body ?done ?stop
  case assign =>
    intro l x W K hK
    gi_wp2
    exact hK
  case body =>
    rintro l pre x W ⟨v, b4, b5, b9, how, hsh, hk⟩ hpre
    have hpo : ∀ y ∈ pre ++ [x], Hok y := fun y hy => HVO.out y (hpre.subset hy)
    have hpl : (pre ++ [x]).length ≤ 64 := Nat.le_trans hpre.length_le HVL.out
    have hsb := sumfr_some (fun y hy => hpo y (List.mem_append_left _ hy))
    have hxb := hpo x (by simp)
    simp at hpl
    obtain ⟨hs1, hs2⟩ := hsb
    obtain ⟨_, _, hx1, hx2⟩ := hxb
    obtain ⟨S, hS⟩ : ∃ S, f + sumfr pre = S := ⟨_, rfl⟩
    rw [hS] at b4
    have bS1 : 0 ≤ S := by omega
    have bS2 : S ≤ 20000 := by omega
    have k4 := b4.cell 0
    have k5 := b5.cell 0
    have k9 := b9.cell 0
    have f4 := b4.frozen 0
    have f9 := b9.frozen 0
    have l4 := b4.lt
    have l5 := b5.lt
    have l9 := b9.lt
    simp at k4 k5 k9
    have hws := hk.size
    have HB4 := Lib.hid b4
    have HB5 := Lib.hid b5
    have HB9 := Lib.hid b9
    have HOW := Lib.hid how
    have HSH := Lib.hid hsh
    have HK := Lib.hid hk
    have HSS := Lib.hid hS
    clear b4 b5 b9 how hsh hk hS hpo
    have hrn : r ≠ s := by omega
    have hsn : s ≠ r := by omega
    by_cases hlt : want ≤ S
    · gi_wp2
      exact ⟨KeepsOthers.refl _, rfl, pre, x, rfl, ⟨v, by rw [HSS.out]; exact HB4.out, HB5.out, HB9.out, HOW.out, HSH.out, HK.out⟩, by rw [HSS.out]; exact hlt⟩
    · gi_wp2_with (gi_at_builtin; refine wpListIn_append_own _ rfl _ _ 27 rfl s 3 i3 (.int .i64 0) 1 8 Try.underlying27 hi3 h30 h31 h32 rfl (by decide) _ _ _ rfl (HOW.out.alloc _) ⟨W.heap.size, 0, none⟩ 1 1 [.int .i64 x.id] rfl rfl (by intro j u hu; have := (Blk.new W 3 #[.int .i64 x.id]).cell j; cases j with | zero => simpa [Addr.add] using this.trans hu | succ j => simp at hu) (by intro u hu; simp at hu; subst hu; rfl) (by unfold maxLen; omega) (by omega) (by simp; omega) ?_; intro v5 w5 hown5 hgrow5 _; obtain ⟨g5, c5, rfl⟩ := ownsRow_succ hown5; have HO5 := Lib.hid hown5; have HG5 := Lib.hid (show (W.alloc (.cells #[.int .i64 x.id] 3)).grownBy w5 v.ownBlock from hgrow5); have h4 := (HB4.out.alloc (.cells #[.int .i64 x.id] 3)).grown HG5.out (fun e => by have := (HOW.out.lt r e.symm).1; omega); have h5 := (HB5.out.alloc (.cells #[.int .i64 x.id] 3)).grown HG5.out (fun e => by have := (HOW.out.lt (r + 1) e.symm).1; omega); have h9 := (HB9.out.alloc (.cells #[.int .i64 x.id] 3)).grown HG5.out (fun e => own3_ne HOW.out HB9.out e.symm); have m4 := h4.cell 0; have m9 := h9.cell 0; have y4 := h4.frozen 0; have y9 := h9.frozen 0; simp at m4 m9; have H4 := Lib.hid h4; have H5 := Lib.hid h5; have H9 := Lib.hid h9; clear hown5 hgrow5 h4 h5 h9)
      have hrow : ∀ (j : Nat) (o : Obj), v.ownBlock = some j → (W.alloc (.cells #[.int .i64 x.id] 3)).heap[j]? = some o → o.isCells = true := own_cells (HOW.out.alloc _)
      refine ⟨(((KeepsOthers.alloc W _).trans (KeepsOthers.of_grownBy HG5.out hrow)).trans (KeepsOthers.setCell _ _ _)).trans (KeepsOthers.setCell _ _ _), ?_, .slice (some ⟨g5, 0, none⟩) (pre.length + 1) c5, ?_, ?_, ?_, ?_, short_snoc x HSH.out (by rw [HSS.out]; omega), ?_⟩
      · refine KpR.of_only (S := fun k => k = r ∨ k = s ∨ v.ownBlock = some k) (((((Only.refl _ W).alloc _).grown HG5.out (fun k hk _ => .inr (.inr hk))).setOf (.inr (.inl rfl)) _).setOf (.inl rfl) _) ?_
        rintro k hk (rfl | rfl | e)
        · exact it_not hk HB4.out (by decide)
        · exact it_not hk HB9.out (by decide)
        · obtain ⟨cs, hcs⟩ := own_blk HOW.out e
          exact it_not hk hcs (by decide)
      · rw [sumfr_snoc, ← Int.add_assoc, HSS.out]
        simpa using (H4.out.far' (q := s) (o := 0) hrn (.slice (some ⟨g5, 0, none⟩) (pre.length + 1) c5)).set_ 0 (.int .i64 (S + x.fr))
      · exact (H5.out.far' (by omega) _).far' (by omega) _
      · exact (by simpa using H9.out.set_ 0 (.slice (some ⟨g5, 0, none⟩) (pre.length + 1) c5) : Blk _ s 27 #[.slice (some ⟨g5, 0, none⟩) (pre.length + 1) c5]).far' hsn _
      · have hlo := (HO5.out.lt g5 rfl).1
        have h1 := HO5.out.kept (grownBy_cell w5 s 0 (.slice (some ⟨g5, 0, none⟩) (pre.length + 1) c5)) (.inr (own3_ne HO5.out H9.out))
        have h2 := h1.kept (grownBy_cell _ r 0 (.int .i64 (S + x.fr))) (.inr (fun e => by have := (h1.lt r e).1; omega))
        simpa using h2
      · have hr := HR.out
        exact ((kept_grown (HK.out.alloc _) (HOW.out.alloc _) (by omega) HG5.out).setNew (by omega) _).setNew (by omega) _
  case done =>
    rintro D W ⟨v, b4, b5, b9, how, hsh, hk⟩ hD hK
    have k4 := b4.cell 0
    have k9 := b9.cell 0
    simp at k4 k9
    have hpl := plan_is V V f want (List.prefix_refl _) hsh (.inl rfl)
    have HP := Lib.hid hpl
    have HOW := Lib.hid how
    have HKW := Lib.hid hk
    have HKD := Lib.hid hK
    clear b4 b5 b9 how hsh hk hpl hK
    gi_wp2
    gi_region
    all_goals
      gi_wp2
      have hKD : (W.drew).heap[D]? = some (.deferred (some [])) := HKD.out
      have hrD : w.heap.size ≤ D := by have := HS2.out; omega
      have hrs' : w.heap.size ≤ s := by have := HR.out; omega
      refine ⟨by simp, .inl ⟨_, _, rfl, run_takeDeferred hKD, ?_⟩⟩
      refine ⟨.tuple #[v, .int .i64 (f + sumfr V), .int .i64 0], ?_, v, ?_, ?_, ?_⟩
      · simp [results, Try.results11, go_sem]
      · rw [HP.out]
      · rw [HP.out]; exact own_base (put_own (X := W.drew) HOW.out hKD rfl) hrs'
      · exact put_kept HKW.out.drew hrD _
  case stop =>
    rintro D cd xs y W hpre ⟨rfl, pre, x, hxs, ⟨v, b4, b5, b9, how, hsh, hk⟩, hle⟩ hD hK
    have k4 := b4.cell 0
    have k9 := b9.cell 0
    simp at k4 k9
    have hpV : pre <+: V := by
      have h1 : pre <+: pre ++ [x] := List.prefix_append _ _
      rw [← hxs] at h1
      exact h1.trans hpre
    have hpl := plan_is V pre f want hpV hsh (.inr hle)
    have HP := Lib.hid hpl
    have HOW := Lib.hid how
    have HKW := Lib.hid hk
    have HKD := Lib.hid hK
    clear b4 b5 b9 how hsh hk hpl hK hxs hpre hpV hle
    gi_wp2
    gi_region
    all_goals
      gi_wp2
      have hKD : (W.drew).heap[D]? = some (.deferred (some [])) := HKD.out
      have hrD : w.heap.size ≤ D := by have := HS2.out; omega
      have hrs' : w.heap.size ≤ s := by have := HR.out; omega
      refine ⟨by simp, .inl ⟨_, _, rfl, run_takeDeferred hKD, ?_⟩⟩
      refine ⟨.tuple #[v, .int .i64 (f + sumfr pre), .int .i64 0], ?_, v, ?_, ?_, ?_⟩
      · simp [results, Try.results11, go_sem]
      · rw [HP.out]
      · rw [HP.out]; exact own_base (put_own (X := W.drew) HOW.out hKD rfl) hrs'
      · exact put_kept HKW.out.drew hrD _

theorem plan_good (A : Option Addr) (n c : Nat) (hs V : List Hd) (f want : Int) (w : World) (hn : hs.length = n) (hb : n ≤ 9223372036854775807) (hL : Hs w A hs) (hg : Good hs) (hf1 : 0 ≤ f) (hf2 : f ≤ 10000) (hw1 : 0 ≤ want) (hw2 : want ≤ 10000)
    (hbd : ∀ x ∈ hs, x.id ≤ 9223372036854775807) (hV : (full hs).Perm V) (hVs : V.Pairwise (fun a b => kh a < kh b)) :
    Calls Try.prog 11 #[.slice A n c, .int .i64 f, .int .i64 want] w fun e w' => ∃ v, e = .returned (.tuple #[v, .int .i64 (f + sumfr (plan V f want)), .int .i64 0]) ∧
      w'.ownsRow w.heap.size 3 1 v (plan V f want).length (((plan V f want).map Hd.id).map (Value.int .i64)) ∧ Kept w w' :=
  callsIn_wide.1 (plan_in A n c hs V f want w hn hb hL hg hf1 hf2 hw1 hw2 hbd hV hVs)
end Go.Proofs.Ytflljldmcidhgaa
