/- The victims, one by one: what the iterator turns, what a round keeps; its walk. -/
import Derived.RangeFuncNested
import Derived.RangeFuncBound
import Derived.RangeFuncCalls
import Derived.RangeFuncLeaves
import Derived.Shelf.Abstract
import Derived.Shelf.RegionOpen
import Derived.OwnWalkIn
import Derived.TacticsInMore
import Derived.LoopNIn
import Derived.LoopIn
import Derived.Maps.AppendAt
import Derived.Test.YtflljldmcidhgaaHoD
namespace Go.Proofs.Ytflljldmcidhgaa
open Go.RowKit Go.Shelf
set_option linter.unusedVariables false
set_option linter.unusedSimpArgs false
set_option linter.unnecessarySimpa false
attribute [local go_sem] Oper.semAt_some

/-- A block of the iterator's kinds, from B on. -/
def IT (B : Nat) (w : World) (k : Nat) : Prop := B ≤ k ∧ ∃ (cs : Array Value) (t : TypeId), Blk w k t cs ∧ (t = 41 ∨ t = 50)

/-- What a round keeps. -/
structure KpR (B : Nat) (w w' : World) : Prop where
  size : w.heap.size ≤ w'.heap.size
  same : ∀ k, IT B w k → w'.heap[k]? = w.heap[k]?

theorem KpR.refl (B : Nat) (w : World) : KpR B w w := ⟨Nat.le_refl _, fun _ _ => rfl⟩
theorem IT.of_same {B k : Nat} {a b : World} (h : IT B a k) (e : b.heap[k]? = a.heap[k]?) : IT B b k := by
  obtain ⟨h1, cs, t, h2, h3⟩ := h
  exact ⟨h1, cs, t, e.trans h2, h3⟩
theorem KpR.trans {B : Nat} {a b c : World} (h : KpR B a b) (k : KpR B b c) : KpR B a c :=
  ⟨Nat.le_trans h.size k.size, fun i hi => (k.same i (hi.of_same (h.same i hi))).trans (h.same i hi)⟩
theorem KpR.mono {B B' : Nat} {a b : World} (h : KpR B a b) (hB : B ≤ B') : KpR B' a b :=
  ⟨h.size, fun i hi => h.same i ⟨by have := hi.1; omega, hi.2⟩⟩

theorem IT.lt {B k : Nat} {w : World} (h : IT B w k) : k < w.heap.size := by
  obtain ⟨_, cs, t, h2, _⟩ := h
  exact h2.lt

/-- Turns of other blocks keep the iterator's. -/
theorem KpR.of_only {B : Nat} {S : Nat → Prop} {a b : World} (h : Only S a b) (hs : ∀ k, IT B a k → ¬ S k) : KpR B a b :=
  ⟨h.size, fun k hk => h.block k hk.lt (hs k hk)⟩

theorem KpR.put {B : Nat} {w : World} {k : Nat} {o o' : Obj} (h : w.heap[k]? = some o) (hc : o.isCells = false) : KpR B w (w.putObj k o') :=
  ⟨by simp, fun i hi => World.putObj_heap_other (by
    rintro rfl
    obtain ⟨_, cs, t, h2, _⟩ := hi
    unfold Blk at h2
    rw [h] at h2
    cases h2
    cases hc)⟩

theorem Rest.keepR {w w' : World} {B p : Nat} {l : List Hd} (h : Rest w B p l) (hp : B ≤ p) (hk : KpR B w w') : Rest w' B p l := by
  obtain ⟨v, hb, ho⟩ := h.box
  refine ⟨⟨v, (hk.same p ⟨hp, _, 50, hb, .inr rfl⟩).trans hb, ho.1, ho.2.imp id ?_⟩, h.heap, h.ok, h.small, Nat.le_trans h.lb hk.size⟩
  rintro ⟨g, cap, cur, e1, e2, e3, e4⟩
  exact ⟨g, cap, cur, e1, e2, (hk.same g ⟨e2, cur, 41, e3, .inl rfl⟩).trans e3, e4⟩

theorem Rest.kept {w w' : World} {B p : Nat} {l : List Hd} (h : Rest w B p l) (hp : B ≤ p) (hk : Kept w w') : Rest w' B p l := h.keepR hp (KpR.of_only hk (fun _ _ f => f))

/-- The iterator's steps. -/
theorem it_of_ts {w w' : World} {B p : Nat} {l : List Hd} (h : Rest w B p l) (hp : B ≤ p) (ho : Only (TS B p w) w w') : Only (IT B w) w w' := by
  obtain ⟨v, hb, _⟩ := h.box
  refine ho.mono (fun k _ e => ?_)
  rcases e with rfl | ⟨h1, cs, h2⟩
  · exact ⟨hp, _, 50, hb, .inr rfl⟩
  · exact ⟨h1, cs, 41, h2, .inl rfl⟩

/-- Holders at address A. -/
def Hs (w : World) (A : Option Addr) (hs : List Hd) : Prop :=
  hs ≠ [] → ∃ g o, A = some ⟨g, o, none⟩ ∧ g < w.heap.size ∧ ∀ (i : Nat) (x : Hd), hs[i]? = some x → w.cell? ⟨g, o + i * 2, none⟩ = some (.int .i64 x.id) ∧ w.cell? ⟨g, o + i * 2 + 1, none⟩ = some (.int .i64 x.fr)

theorem Hs.kept {w w' : World} {A : Option Addr} {hs : List Hd} (h : Hs w A hs) (hk : Kept w w') : Hs w' A hs := fun hne => by
  obtain ⟨g, o, rfl, hg, hc⟩ := h hne
  exact ⟨g, o, rfl, Nat.lt_of_lt_of_le hg hk.size, fun i x hx => ⟨kept_cell hk (hc i x hx).1, kept_cell hk (hc i x hx).2⟩⟩

/-- Those that hold something. -/
def full (hs : List Hd) : List Hd := hs.filter (fun x => decide (0 < x.fr))

theorem full_step (hs : List Hd) (k : Nat) (x : Hd) (hx : hs[k]? = some x) : full (hs.take (k + 1)) = full (hs.take k) ++ (if 0 < x.fr then [x] else []) := by
  obtain ⟨hk, rfl⟩ := List.getElem?_eq_some_iff.1 hx
  unfold full
  rw [List.take_succ_eq_append_getElem hk, List.filter_append]
  by_cases h : 0 < hs[k].fr <;> simp [h]

/-- How many are left. -/
def left (w : World) (p : Nat) : Nat := match w.cell? ⟨p, 0, none⟩ with
  | some (.slice _ n _) => n
  | _ => 0

theorem Rest.left_eq {w : World} {B p : Nat} {l : List Hd} (h : Rest w B p l) : left w p = l.length := by
  obtain ⟨v, hb, ho⟩ := h.box
  have hc := hb.cell 0
  simp at hc
  unfold left
  rw [hc]
  rcases ho.2 with ⟨rfl, h1⟩ | ⟨g, cap, cur, rfl, _⟩
  · exact h1.symm
  · rfl

theorem Rest.cell {w : World} {B p : Nat} {l : List Hd} (h : Rest w B p l) : ∃ A c, w.cell? ⟨p, 0, none⟩ = some (.slice A l.length c) := by
  obtain ⟨v, hb, ho⟩ := h.box
  have hc := hb.cell 0
  simp at hc
  rcases ho.2 with ⟨rfl, h1⟩ | ⟨g, cap, cur, rfl, _⟩
  · exact ⟨none, 0, by rw [h1]; exact hc⟩
  · exact ⟨_, _, hc⟩

/-- The heap's head is the first of those that are sorted. -/
theorem head_is {l V : List Hd} {x : Hd} (hh : Heap kh l) (hx : l[0]? = some x) (hp : l.Perm V) (hV : V.Pairwise (fun a b => kh a < kh b)) : ∃ V', V = x :: V' := by
  have hxV : x ∈ V := hp.mem_iff.1 (List.mem_iff_getElem?.2 ⟨0, hx⟩)
  cases V with
  | nil => cases hxV
  | cons y V' =>
    rcases List.mem_cons.1 hxV with rfl | h
    · exact ⟨V', rfl⟩
    · exfalso
      have h1 := (List.pairwise_cons.1 hV).1 x h
      obtain ⟨k, hk⟩ := List.mem_iff_getElem?.1 (hp.mem_iff.2 (List.mem_cons_self (a := y) (l := V')))
      have h2 := heap_least hh k (List.getElem?_eq_some_iff.1 hk).1
      rw [kk_at kh hx, kk_at kh hk] at h2
      omega

set_option maxRecDepth 100000 in
set_option maxHeartbeats 4000000 in
theorem victims1_in (m l Bn n c : Nat) (A : Option Addr) (hs V : List Hd) (J Jx : List Hd → World → Prop) (W : World)
    (hn : hs.length = n) (h64 : n ≤ 64) (hok : ∀ x ∈ hs, Hok x) (hV : (full hs).Perm V) (hVs : V.Pairwise (fun a b => kh a < kh b))
    (hJ : ∀ s X X', J s X → Only (IT W.heap.size X) X X' → J s X')
    (hY : ∀ pre x X, J pre X → (pre ++ [x]) <+: V → YieldAt Fence.wide m Try.prog l #[.int .i64 x.id, .int .i64 x.fr] X fun e X' =>
      (e = .returned (.bool true) ∧ J (pre ++ [x]) X' ∧ KpR W.heap.size X X') ∨ (e = .returned (.bool false) ∧ Jx (pre ++ [x]) X'))
    (hBn : W.cell? ⟨Bn, 0, none⟩ = some (.slice A n c)) (hL : Hs W A hs) (h0 : J [] W) :
    CallsIn Fence.wide (m + 1) Try.prog 29 #[.func (.yield l) #[] #[], .pointer (some ⟨Bn, 0, none⟩)] W fun e W' => (∃ v, e = .returned v) ∧
      (J V W' ∨ ∃ pre x, (pre ++ [x]) <+: V ∧ Jx (pre ++ [x]) W') := by
  have HJ := Lib.hid hJ
  have HY := Lib.hid hY
  have HL := Lib.hid hL
  have H0 := Lib.hid h0
  have HN := Lib.hid hn
  have HOK := Lib.hid hok
  have HV := Lib.hid hV
  have HVS := Lib.hid hVs
  have hBl : Bn < W.heap.size := cell_lt hBn
  have hF30 : Fence.wide.fn 30 := trivial
  have hF31 : Fence.wide.fn 31 := trivial
  clear hJ hY hL h0 hn hok hV hVs
  refine callsIn_of_wp Try.func29 rfl trivial ?_ rfl
  simp only [Try.ntmps29, List.size_toArray, List.length_cons, List.length_nil, Nat.reduceAdd, Nat.reduceSub, Array.replicate_succ, Array.replicate_zero, List.push_toArray, List.append_toArray, List.nil_append, List.cons_append]
  gi_wp2
  obtain ⟨B, hB⟩ : ∃ B, W.heap.size = B := ⟨_, rfl⟩
  have hR0 : Rest (W.alloc (.cells #[.slice none 0 0] 50)) W.heap.size W.heap.size [] := Rest.new (Blk.new W 50 #[.slice none 0 0]) (by simp)
  have hJ0 : J [] (W.alloc (.cells #[.slice none 0 0] 50)) := HJ.out [] W _ H0.out ((Only.refl _ W).alloc _)
  have hK0 : Kept W (W.alloc (.cells #[.slice none 0 0] 50)) := (Only.refl _ W).alloc _
  rw [hB] at hR0 HJ HY hBl ⊢
  have HR0 := Lib.hid hR0
  have HJ0 := Lib.hid hJ0
  have HK0 := Lib.hid hK0
  have HB := Lib.hid hB
  clear hR0 hJ0 hK0 hB hBn
  generalize (W.alloc (.cells #[.slice none 0 0] 50)) = W0 at *
  gi_loopw [9] (fun v wr => ∃ (k : Nat) (lst : List Hd), v = .int .i64 k ∧ k ≤ n ∧ Rest wr B B lst ∧ lst.Perm (full (hs.take k)) ∧ J [] wr ∧ Kept W wr) (fun v _ => n - (intOf v).toNat)
  case atStart => exact ⟨0, [], rfl, by omega, HR0.out, by simp [full], HJ0.out, HK0.out⟩
  case round =>
    obtain ⟨k, lst, rfl, hk, hr, hp, hj, hkp⟩ := hrel
    have HR := Lib.hid hr
    have HP := Lib.hid hp
    have HJJ := Lib.hid hj
    have HK := Lib.hid hkp
    by_cases hkn : k < n
    · obtain ⟨x, hx⟩ : ∃ x, hs[k]? = some x := ⟨_, List.getElem?_eq_getElem (by rw [HN.out]; exact hkn)⟩
      obtain ⟨g, o, hA, hg, hc⟩ := HL.out (by rintro rfl; simp at hx)
      subst hA
      obtain ⟨c1, c2⟩ := hc k x hx
      have d1 := kept_cell hkp c1
      have d2 := kept_cell hkp c2
      have hlen : lst.length < 64 := by
        have h1 := hp.length_eq
        have h2 := List.length_filter_le (fun x : Hd => decide (0 < x.fr)) (hs.take k)
        have h3 := List.length_take_le k hs
        unfold full at h1
        omega
      have hokx := HOK.out x (List.mem_iff_getElem?.2 ⟨k, hx⟩)
      have hst := full_step hs k x hx
      have hJ1 : J [] (wr.alloc (.cells #[.int .i64 x.id, .int .i64 x.fr] 41)) := HJ.out [] wr _ hj ((Only.refl _ wr).alloc _)
      have HR1 := Lib.hid (hr.kept (Nat.le_refl _) ((Only.refl (fun _ => False) wr).alloc (.cells #[.int .i64 x.id, .int .i64 x.fr] 41)))
      have HJ1 := Lib.hid hJ1
      have HK1 := Lib.hid (hkp.alloc (.cells #[.int .i64 x.id, .int .i64 x.fr] 41))
      have HST := Lib.hid hst
      have HOX := Lib.hid hokx
      clear hr hp hj hkp hx hc c1 c2 hJ1 hst hokx
      by_cases hf : 0 < x.fr
      · gi_wp2_with (gi_at_call 30; refine (callsIn_wide.2 (hpush_ok B B x lst _ HR1.out HOX.out hlen)).mono ?_; rintro e w2 ⟨⟨v2, rfl⟩, l2, hr2, hp2, ho2⟩; have HR2 := Lib.hid hr2; have HP2 := Lib.hid hp2; have HO2 := Lib.hid ho2; clear hr2 hp2 ho2)
        go_roundw
        case rel =>
          refine ⟨k + 1, l2, by go_num, by omega, HR2.out, ?_, HJ.out [] _ _ HJ1.out (it_of_ts HR1.out (Nat.le_refl _) HO2.out), ?_⟩
          · rw [HST.out, if_pos hf]
            exact (HP2.out.trans (HP.out.cons x)).trans (List.perm_append_comm (l₁ := [x]) (l₂ := full (hs.take k)))
          · exact HK1.out.trans' (it_of_ts HR1.out (Nat.le_refl _) HO2.out) (fun q hq e => by have := e.1; have := HB.out; omega)
        case measure => simp [intOf]; omega
      · gi_wp2
        go_roundw
        case rel =>
          refine ⟨k + 1, lst, by go_num, by omega, HR1.out, ?_, HJ1.out, HK1.out⟩
          rw [HST.out, if_neg hf, List.append_nil]
          exact HP.out
        case measure => simp [intOf]; omega
    · obtain rfl : n = k := by omega
      have hpV : lst.Perm V := by
        rw [List.take_of_length_le (by rw [HN.out]; exact Nat.le_refl _)] at hp
        exact hp.trans HV.out
      have HPV := Lib.hid hpV
      clear hr hp hj hkp hpV
      gi_wp2
      obtain ⟨wo, rfl⟩ : ∃ wo : World, wo = wr := ⟨_, rfl⟩
      gi_loopw [22] (fun _ wr => ∃ (pre V' lst : List Hd), V = pre ++ V' ∧ lst.Perm V' ∧ Rest wr B B lst ∧ J pre wr) (fun _ wr => left wr B)
      case atStart => exact ⟨[], V, lst, rfl, HPV.out, HR.out, HJJ.out⟩
      case round =>
        clear HR HP HJJ HK HPV
        obtain ⟨pre, V', lst, hv, hp, hr, hj⟩ := hrel
        have HVV := Lib.hid hv
        have HP := Lib.hid hp
        have HR := Lib.hid hr
        have HJJ := Lib.hid hj
        obtain ⟨A2, c2, hc⟩ := hr.cell
        cases lst with
        | nil =>
          have hV0 : V = pre := by rw [hv, List.nil_perm.1 hp, List.append_nil]
          have HV0 := Lib.hid hV0
          simp at hc
          clear hv hp hr hj hV0
          gi_wp2
          go_end0
          exact ⟨⟨_, rfl⟩, .inl (by rw [HV0.out]; exact HJJ.out)⟩
        | cons y lst =>
          have hVs' : V'.Pairwise (fun a b => kh a < kh b) := by have h := HVS.out; rw [hv] at h; exact (List.pairwise_append.1 h).2.1
          obtain ⟨V2, rfl⟩ := head_is hr.heap rfl hp hVs'
          have hp2 : lst.Perm V2 := (List.perm_cons y).1 hp
          have HP2 := Lib.hid hp2
          have hpre : (pre ++ [y]) <+: V := ⟨V2, by rw [hv]; simp⟩
          have HPRE := Lib.hid hpre
          have HV2 := Lib.hid hv
          have has := as41
          simp at hc
          clear hv hp hr hj hVs' hp2 hpre
          gi_wp2_with (gi_at_call 31; refine (callsIn_wide.2 (hpop_ok B B lst.length y (y :: lst) wr HR.out rfl rfl)).mono ?_; rintro e w2 ⟨rfl, l2, hr2, hq2, ho2⟩; have HR2 := Lib.hid (hr2.kept (Nat.le_refl _) ((Only.refl (fun _ => False) w2).alloc (.cells #[.int .i64 y.id, .int .i64 y.fr] 41))); have HQ2 := Lib.hid hq2; have HJ2 := Lib.hid (HJ.out pre w2 _ (HJ.out pre wr w2 HJJ.out (it_of_ts HR.out (Nat.le_refl _) ho2)) ((Only.refl _ w2).alloc (.cells #[.int .i64 y.id, .int .i64 y.fr] 41))); clear hr2 hq2 ho2)
          obtain ⟨fn, tmps, assign, body, hy, hR⟩ := HY.out pre y _ HJ2.out HPRE.out
          rw [hy]
          gi_wp2
          refine hR.mono ?_
          rintro e W3 (⟨rfl, hJ3, hk3⟩ | ⟨rfl, hJx3⟩)
          · have HR3 := Lib.hid (HR2.out.keepR (Nat.le_refl _) hk3)
            have HJ3 := Lib.hid hJ3
            clear hJ3 hk3 hy hR
            gi_wp2
            go_roundw
            case rel => exact ⟨pre ++ [y], V2, l2, by rw [HV2.out]; simp, ((List.perm_cons y).1 HQ2.out).trans HP2.out, HR3.out, HJ3.out⟩
            case measure =>
              rw [HR3.out.left_eq, HR.out.left_eq]
              have := HQ2.out.length_eq
              simp at this ⊢
              omega
          · have HJX := Lib.hid hJx3
            clear hJx3 hy hR
            gi_wp2
            refine bodyPost_ret (results_none rfl _ _ _) rfl ?_
            exact ⟨⟨_, rfl⟩, .inr ⟨pre, y, HPRE.out, HJX.out⟩⟩
end Go.Proofs.Ytflljldmcidhgaa
