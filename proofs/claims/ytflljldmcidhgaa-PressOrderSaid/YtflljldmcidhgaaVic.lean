/- Victim, where all are holders. -/
import Derived.Test.YtflljldmcidhgaaHeld
namespace Go.Proofs.Ytflljldmcidhgaa
open Go.RowKit Go.Shelf
set_option linter.unusedVariables false
set_option linter.unusedSimpArgs false
set_option linter.unnecessarySimpa false
attribute [local go_sem] Oper.semAt_some

/-- Between two rounds of Victim's loop: there has been none. -/
def VI (w : World) (r : Nat) (pre : List Hd) (W : World) : Prop := pre = [] ∧ Blk W r 3 #[.int .i64 0] ∧ Blk W (r + 1) 24 #[.int .i64 0] ∧ Kept w W
/-- Its loop was left. -/
def VX (w : World) (r : Nat) (cd : Code) (pre : List Hd) (W : World) : Prop := cd = .ret ∧ ∃ x, pre = [x] ∧ Blk W r 3 #[.int .i64 x.id] ∧ Blk W (r + 1) 24 #[.int .i64 0] ∧ Kept w W

theorem VI.calm {w : World} {r B : Nat} (hB : w.heap.size ≤ B) (s : List Hd) : Calm B (VI w r s) :=
  ⟨fun X X' ⟨h1, h2, h3, h4⟩ ho => ⟨h1, calm_blk h2 (by decide) ho, calm_blk h3 (by decide) ho, calm_kept h4 hB ho⟩,
   fun X k o o' ⟨h1, h2, h3, h4⟩ hk hx hc => ⟨h1, put_blk h2 hx hc, put_blk h3 hx hc, put_kept h4 (by omega) o'⟩⟩
theorem VX.calm {w : World} {r B : Nat} (hB : w.heap.size ≤ B) (cd : Code) (s : List Hd) : Calm B (VX w r cd s) :=
  ⟨fun X X' ⟨h1, x, h2, h3, h4, h5⟩ ho => ⟨h1, x, h2, calm_blk h3 (by decide) ho, calm_blk h4 (by decide) ho, calm_kept h5 hB ho⟩,
   fun X k o o' ⟨h1, x, h2, h3, h4, h5⟩ hk hx hc => ⟨h1, x, h2, put_blk h3 hx hc, put_blk h4 hx hc, put_kept h5 (by omega) o'⟩⟩

set_option maxRecDepth 100000 in
set_option maxHeartbeats 4000000 in
theorem victim_in (A : Option Addr) (n c : Nat) (hs V : List Hd) (w : World) (hn : hs.length = n) (hb : n ≤ 9223372036854775807) (hL : Hs w A hs) (hg : Good hs) (hbd : ∀ x ∈ hs, x.id ≤ 9223372036854775807) (hV : (full hs).Perm V) (hVs : V.Pairwise (fun a b => kh a < kh b)) :
    CallsIn Fence.wide 3 Try.prog 9 #[.slice A n c] w fun e w' => e = .returned (.tuple #[.int .i64 (first1 V).1, .int .i64 (first1 V).2]) ∧ Kept w w' := by
  have hck := check_calls A n c hs ((w.alloc (.cells #[.int .i64 0] 3)).alloc (.cells #[.int .i64 0] 24)) hn hb (hL.kept (((Only.refl (fun _ => False) w).alloc _).alloc _))
  rw [chk_good hg] at hck
  have hok := good_ok hg hbd
  have h64 := hg.1
  rw [hn] at h64
  have HC := Lib.hid hck
  have HN := Lib.hid hn
  have HL := Lib.hid hL
  have HOK := Lib.hid hok
  have HV := Lib.hid hV
  have HVS := Lib.hid hVs
  have hF14 : Fence.wide.fn 14 := trivial
  have hF26 : Fence.wide.fn 26 := trivial
  clear hck hn hL hg hbd hok hV hVs
  refine callsIn_of_wp_marks Try.func9 rfl trivial ?_ rfl
  simp only [Try.ntmps9, List.size_toArray, List.length_cons, List.length_nil, Nat.reduceAdd, Nat.reduceSub, Array.replicate_succ, Array.replicate_zero, List.push_toArray, List.append_toArray, List.nil_append, List.cons_append]
  gi_wp2_with (gi_at_call 14; refine (callsIn_wide.2 HC.out).mono ?_; rintro e w1 ⟨rfl, hk1⟩; have HK1 := Lib.hid hk1; clear hk1)
  refine (callsIn_wide.2 (victims_calls A n c w1)).mono ?_
  rintro e w2 ⟨rfl, hw2⟩
  have B2 := HK1.out.blk ((Blk.new w 3 #[.int .i64 0]).alloc (.cells #[.int .i64 0] 24)) (fun f => f)
  have B3 := HK1.out.blk (Blk.new (w.alloc (.cells #[.int .i64 0] 3)) 24 #[.int .i64 0]) (fun f => f)
  simp only [World.size_alloc] at B3
  have hK1 : Kept w w1 := (((Only.refl (fun _ => False) w).alloc (.cells #[.int .i64 0] 3)).alloc (.cells #[.int .i64 0] 24)).trans HK1.out
  have hK2 : Kept w w2 := by rw [← hw2]; exact hK1.alloc _
  have hBn : w2.cell? ⟨w1.heap.size, 0, none⟩ = some (.slice A n c) := by rw [← hw2]; exact (Blk.new w1 22 #[.slice A n c]).cell 0
  have hL2 := HL.out.kept hK2
  have B2' : Blk w2 w.heap.size 3 #[.int .i64 0] := by rw [← hw2]; exact B2.alloc _
  have B3' : Blk w2 (w.heap.size + 1) 24 #[.int .i64 0] := by rw [← hw2]; exact B3.alloc _
  obtain ⟨q, hq⟩ : ∃ q, w1.heap.size = q := ⟨_, rfl⟩
  obtain ⟨r, hr⟩ : ∃ r, w.heap.size = r := ⟨_, rfl⟩
  have hs2 := hK2.size
  rw [hq] at hBn ⊢
  rw [hr] at B2' B3' ⊢
  have h0 : VI w r [] w2 := ⟨rfl, B2', B3', hK2⟩
  have H0 := Lib.hid h0
  have HBn := Lib.hid hBn
  have HL2 := Lib.hid hL2
  have HR := Lib.hid hr
  have HS2 := Lib.hid hs2
  clear B2 B3 hK1 hK2 hBn hL2 B2' B3' hq hw2 h0 hr hs2 HK1 HC HL
  gi_wp2
  refine range_vics (m := 1) HN.out h64 HOK.out HV.out HVS.out (Bn := q) (c := c) (A := A) rfl HBn.out HL2.out rfl (VI w r) (VX w r) (VI.calm HS2.out) (VX.calm HS2.out) H0.out
    (fun x => { tmps := #[.slice A n c, undef, .pointer (some ⟨r, 0, none⟩), .pointer (some ⟨r + 1, 0, none⟩), .int .i64 x.id, .slice A n c, .int .i64 0, .bool false, .slice A n c, .func (.func 29) #[] #[.pointer (some ⟨q, 0, none⟩)], .int .i64 x.id, .int .i64 x.fr, undef], defers := [] })
    ?assign ?body ?done ?stop
  case assign =>
    intro l x W K hK
    gi_wp2
    exact hK
  case body =>
    rintro l pre x W ⟨rfl, b2, b3, hk⟩ hpre
    have k2 := b2.cell 0
    have k3 := b3.cell 0
    have f2 := b2.frozen 0
    have f3 := b3.frozen 0
    simp at k2 k3
    have HB2 := Lib.hid b2
    have HB3 := Lib.hid b3
    have HK := Lib.hid hk
    clear b2 b3 hk
    gi_wp2
    refine ⟨(KeepsOthers.setCell _ _ _).trans (KeepsOthers.setCell _ _ _), rfl, x, rfl, ?_, ?_, ?_⟩
    · exact (by simpa using HB2.out.set_ 0 (.int .i64 x.id) : Blk _ r 3 #[.int .i64 x.id]).far' (by omega) _
    · exact by simpa using (HB3.out.far' (q := r) (o := 0) (by omega) (.int .i64 x.id)).set_ 0 (.int .i64 0)
    · have := HR.out
      exact (HK.out.setNew (by omega) _).setNew (by omega) _
  case done =>
    rintro D W ⟨hV0, b2, b3, hk⟩ hD hK
    have k2 := b2.cell 0
    have k3 := b3.cell 0
    have f2 := b2.frozen 0
    have f3 := b3.frozen 0
    simp at k2 k3
    have HB2 := Lib.hid b2
    have HB3 := Lib.hid b3
    have HKW := Lib.hid hk
    have HKD := Lib.hid hK
    clear b2 b3 hk hK
    gi_wp2
    have hK2 : ((W.setCell ⟨r, 0, none⟩ (.int .i64 0)).setCell ⟨r + 1, 0, none⟩ (.int .i64 16)).heap[D]? = some (.deferred (some [])) := ((KeepsOthers.setCell W _ _).trans (KeepsOthers.setCell _ _ _)).same D _ HKD.out rfl
    have q2 : Blk _ r 3 #[.int .i64 0] := (by simpa using HB2.out.set_ 0 (.int .i64 0) : Blk (W.setCell ⟨r, 0, none⟩ (.int .i64 0)) r 3 #[.int .i64 0]).far' (q := r + 1) (o := 0) (by omega) (.int .i64 16)
    have q3 : Blk ((W.setCell ⟨r, 0, none⟩ (.int .i64 0)).setCell ⟨r + 1, 0, none⟩ (.int .i64 16)) (r + 1) 24 #[.int .i64 16] := by simpa using (HB3.out.far' (q := r) (o := 0) (by omega) (.int .i64 0)).set_ 0 (.int .i64 16)
    have e2 := (put_blk (o' := .deferred none) q2 hK2 rfl).cell 0
    have e3 := (put_blk (o' := .deferred none) q3 hK2 rfl).cell 0
    simp at e2 e3
    refine ⟨by simp, .inl ⟨_, _, rfl, run_takeDeferred hK2, ?_⟩⟩
    refine ⟨.tuple #[.int .i64 0, .int .i64 16], ?_, ?_, ?_⟩
    · simp [results, Try.results9, go_sem, e2, e3]
    · rw [hV0]; rfl
    · have := HR.out
      have := HS2.out
      exact put_kept ((HKW.out.setNew (by omega) _).setNew (by omega) _) (by omega) _
  case stop =>
    rintro D cd pre x W hpre ⟨rfl, y, hy, b2, b3, hk⟩ hD hK
    obtain ⟨rfl, rfl⟩ : pre = [] ∧ x = y := by
      cases pre with
      | nil => simp at hy; exact ⟨rfl, hy⟩
      | cons z l => simp at hy
    have e2 := (put_blk (o' := .deferred none) b2 hK rfl).cell 0
    have e3 := (put_blk (o' := .deferred none) b3 hK rfl).cell 0
    simp at e2 e3
    gi_wp2
    refine ⟨by simp, .inl ⟨_, _, rfl, run_takeDeferred hK, ?_⟩⟩
    refine ⟨.tuple #[.int .i64 x.id, .int .i64 0], ?_, ?_, ?_⟩
    · simp [results, Try.results9, go_sem, e2, e3]
    · obtain ⟨V', hV'⟩ := hpre
      rw [← hV']; rfl
    · have := HR.out
      have := HS2.out
      exact put_kept hk (by omega) _

theorem victim_good (A : Option Addr) (n c : Nat) (hs V : List Hd) (w : World) (hn : hs.length = n) (hb : n ≤ 9223372036854775807) (hL : Hs w A hs) (hg : Good hs) (hbd : ∀ x ∈ hs, x.id ≤ 9223372036854775807) (hV : (full hs).Perm V) (hVs : V.Pairwise (fun a b => kh a < kh b)) :
    Calls Try.prog 9 #[.slice A n c] w fun e w' => e = .returned (.tuple #[.int .i64 (first1 V).1, .int .i64 (first1 V).2]) ∧ Kept w w' :=
  callsIn_wide.1 (victim_in A n c hs V w hn hb hL hg hbd hV hVs)
end Go.Proofs.Ytflljldmcidhgaa
