/- The victims as a function of the holders: plain Lean. -/
import Derived.Test.YtflljldmcidhgaaPlan
namespace Go.Proofs.Ytflljldmcidhgaa
open Go.RowKit
set_option linter.unusedVariables false
set_option linter.unusedSimpArgs false
set_option linter.unnecessarySimpa false

theorem Good.iff (hs : List Hd) : Good hs ↔ hs.length ≤ 64 ∧ (∀ x ∈ hs, 1 ≤ x.id ∧ 0 ≤ x.fr ∧ x.fr ≤ 64) ∧ (hs.map Hd.id).Nodup := by
  unfold Good
  refine and_congr_right fun _ => ?_
  constructor
  · intro h
    refine ⟨fun x hx => ?_, ?_⟩
    · obtain ⟨k, hk⟩ := List.mem_iff_getElem?.1 hx
      exact (h k x (List.getElem?_eq_some_iff.1 hk).1 hk).1
    · rw [List.nodup_iff_pairwise_ne, List.pairwise_iff_getElem]
      intro i j hi hj hij
      rw [List.length_map] at hi hj
      have h2 := (h j hs[j] hj (List.getElem?_eq_getElem hj)).2
      intro e
      apply h2
      simp only [List.getElem_map] at e
      rw [← e]
      refine List.mem_map.2 ⟨hs[i], ?_, rfl⟩
      exact List.mem_iff_getElem?.2 ⟨i, by rw [List.getElem?_take, if_pos hij]; exact List.getElem?_eq_getElem hi⟩
  · rintro ⟨h1, h2⟩ i x hi hx
    refine ⟨h1 x (List.mem_iff_getElem?.2 ⟨i, hx⟩), fun hm => ?_⟩
    obtain ⟨y, hy, he⟩ := List.mem_map.1 hm
    obtain ⟨j, hj⟩ := List.mem_iff_getElem?.1 hy
    rw [List.getElem?_take] at hj
    split at hj
    · rename_i hji
      rw [List.nodup_iff_pairwise_ne, List.pairwise_iff_getElem] at h2
      obtain ⟨hj', rfl⟩ := List.getElem?_eq_some_iff.1 hj
      obtain ⟨hi', rfl⟩ := List.getElem?_eq_some_iff.1 hx
      exact h2 j i (by simpa using hj') (by simpa using hi') hji (by simpa using he)
    · cases hj

theorem Good.perm {hs hs' : List Hd} (h : Good hs) (hp : hs.Perm hs') : Good hs' := by
  rw [Good.iff] at h ⊢
  exact ⟨by rw [← hp.length_eq]; exact h.1, fun x hx => h.2.1 x (hp.mem_iff.2 hx), ((hp.map Hd.id).nodup_iff).1 h.2.2⟩

/-- One more, where it belongs. -/
def ins (x : Hd) : List Hd → List Hd
  | [] => [x]
  | y :: l => if kh x < kh y then x :: y :: l else y :: ins x l

/-- The victims, the first one first. -/
def vics (hs : List Hd) : List Hd := (full hs).foldr ins []

theorem ins_perm (x : Hd) : ∀ l, (ins x l).Perm (x :: l)
  | [] => List.Perm.refl _
  | y :: l => by
    unfold ins
    split
    · exact List.Perm.refl _
    · exact ((ins_perm x l).cons y).trans (List.Perm.swap x y l)

theorem ins_sorted (x : Hd) : ∀ l, l.Pairwise (fun a b => kh a < kh b) → (∀ y ∈ l, kh y ≠ kh x) → (ins x l).Pairwise (fun a b => kh a < kh b)
  | [], _, _ => by simp [ins]
  | y :: l, h, hne => by
    obtain ⟨h1, h2⟩ := List.pairwise_cons.1 h
    have hy := hne y (by simp)
    unfold ins
    split
    · rename_i hlt
      refine List.pairwise_cons.2 ⟨fun z hz => ?_, h⟩
      rcases List.mem_cons.1 hz with rfl | hz
      · exact hlt
      · have := h1 z hz; omega
    · rename_i hlt
      refine List.pairwise_cons.2 ⟨fun z hz => ?_, ins_sorted x l h2 (fun z hz => hne z (by simp [hz]))⟩
      rcases List.mem_cons.1 ((ins_perm x l).mem_iff.1 hz) with rfl | hz
      · omega
      · exact h1 z hz

theorem sort_perm : ∀ l : List Hd, (l.foldr ins []).Perm l
  | [] => List.Perm.refl _
  | x :: l => (ins_perm x _).trans ((sort_perm l).cons x)

theorem vics_perm (hs : List Hd) : (full hs).Perm (vics hs) := (sort_perm (full hs)).symm

theorem sort_sorted : ∀ l : List Hd, l.Pairwise (fun a b => kh a ≠ kh b) → (l.foldr ins []).Pairwise (fun a b => kh a < kh b)
  | [], _ => List.Pairwise.nil
  | x :: l, h => by
    obtain ⟨h1, h2⟩ := List.pairwise_cons.1 h
    exact ins_sorted x _ (sort_sorted l h2) (fun y hy e => h1 y ((sort_perm l).mem_iff.1 hy) e.symm)

theorem kh_id {x y : Hd} (hx : Hok x) (hy : Hok y) (h : kh x = kh y) : x.id = y.id := by
  obtain ⟨a1, a2, a3, a4⟩ := hx
  obtain ⟨b1, b2, b3, b4⟩ := hy
  unfold kh at h
  omega

theorem good_keys {hs : List Hd} (h : Good hs) (hb : ∀ x ∈ hs, x.id ≤ 9223372036854775807) : hs.Pairwise (fun a b => kh a ≠ kh b) := by
  have hok := good_ok h hb
  have hn := ((Good.iff hs).1 h).2.2
  rw [List.nodup_iff_pairwise_ne, List.pairwise_map] at hn
  exact List.Pairwise.imp_of_mem (fun {a b} ha hb' hne e => hne (kh_id (hok a ha) (hok b hb') e)) hn

theorem vics_sorted {hs : List Hd} (h : Good hs) (hb : ∀ x ∈ hs, x.id ≤ 9223372036854775807) : (vics hs).Pairwise (fun a b => kh a < kh b) :=
  sort_sorted _ ((good_keys h hb).filter _)

theorem sorted_eq : ∀ a b : List Hd, a.Pairwise (fun a b => kh a < kh b) → b.Pairwise (fun a b => kh a < kh b) → a.Perm b → a = b
  | [], b, _, _, hp => (List.nil_perm.1 hp).symm
  | x :: a, [], _, _, hp => absurd hp.symm (by simp)
  | x :: a, y :: b, ha, hb, hp => by
    obtain ⟨a1, a2⟩ := List.pairwise_cons.1 ha
    obtain ⟨b1, b2⟩ := List.pairwise_cons.1 hb
    have hxy : x = y := by
      rcases List.mem_cons.1 (hp.mem_iff.1 (List.mem_cons_self (a := x) (l := a))) with h | h
      · exact h
      · rcases List.mem_cons.1 (hp.mem_iff.2 (List.mem_cons_self (a := y) (l := b))) with h' | h'
        · exact h'.symm
        · have h1 := b1 x h
          have h2 := a1 y h'
          omega
    subst hxy
    rw [sorted_eq a b a2 b2 ((List.perm_cons x).1 hp)]

theorem vics_turned {hs hs' : List Hd} (h : Good hs) (hb : ∀ x ∈ hs, x.id ≤ 9223372036854775807) (hp : hs.Perm hs') : vics hs = vics hs' := by
  refine sorted_eq _ _ (vics_sorted h hb) (vics_sorted (h.perm hp) (fun x hx => hb x (hp.mem_iff.2 hx))) ?_
  exact ((vics_perm hs).symm.trans (hp.filter _)).trans (vics_perm hs')

theorem vics_mem {hs : List Hd} {x : Hd} : x ∈ vics hs ↔ x ∈ hs ∧ 0 < x.fr := by
  rw [← (vics_perm hs).mem_iff]
  unfold full
  simp

open Classical in
/-- What Victim answers. -/
noncomputable def victimv (hs : List Hd) : Int × Int := if Good hs then first1 (vics hs) else (0, 2)

theorem victim_calls (A : Option Addr) (n c : Nat) (hs : List Hd) (w : World) (hn : hs.length = n) (hb : n ≤ 9223372036854775807) (hL : Hs w A hs) (hbd : ∀ x ∈ hs, x.id ≤ 9223372036854775807) :
    Calls Try.prog 9 #[.slice A n c] w fun e w' => e = .returned (.tuple #[.int .i64 (victimv hs).1, .int .i64 (victimv hs).2]) ∧ Kept w w' := by
  by_cases hg : Good hs
  · have e : victimv hs = first1 (vics hs) := by unfold victimv; rw [if_pos hg]
    rw [e]
    exact victim_good A n c hs (vics hs) w hn hb hL hg hbd (vics_perm hs) (vics_sorted hg hbd)
  · have e : victimv hs = (0, 2) := by unfold victimv; rw [if_neg hg]
    rw [e]
    exact victim_bad A n c hs w hn hb hL hg

/-- What Plan answers: who, how many are free, the error. -/
structure Pv where
  out : List Hd
  free : Int
  err : Int

open Classical in
noncomputable def planv (hs : List Hd) (f want : Int) : Pv :=
  if Good hs ∧ 0 ≤ f ∧ f ≤ 10000 ∧ 0 ≤ want ∧ want ≤ 10000 then ⟨plan (vics hs) f want, f + sumfr (plan (vics hs) f want), 0⟩ else ⟨[], 0, 2⟩

theorem plan_calls (A : Option Addr) (n c : Nat) (hs : List Hd) (f want : Int) (w : World) (hn : hs.length = n) (hb : n ≤ 9223372036854775807) (hL : Hs w A hs) (hbd : ∀ x ∈ hs, x.id ≤ 9223372036854775807) :
    Calls Try.prog 11 #[.slice A n c, .int .i64 f, .int .i64 want] w fun e w' => ∃ A' c', e = .returned (.tuple #[.slice A' (planv hs f want).out.length c', .int .i64 (planv hs f want).free, .int .i64 (planv hs f want).err]) ∧
      w'.ownsRow w.heap.size 3 1 (.slice A' (planv hs f want).out.length c') (planv hs f want).out.length (((planv hs f want).out.map Hd.id).map (Value.int .i64)) ∧ Kept w w' := by
  by_cases hg : Good hs ∧ 0 ≤ f ∧ f ≤ 10000 ∧ 0 ≤ want ∧ want ≤ 10000
  · have e : planv hs f want = ⟨plan (vics hs) f want, f + sumfr (plan (vics hs) f want), 0⟩ := by unfold planv; rw [if_pos hg]
    rw [e]
    obtain ⟨h1, h2, h3, h4, h5⟩ := hg
    refine (plan_good A n c hs (vics hs) f want w hn hb hL h1 h2 h3 h4 h5 hbd (vics_perm hs) (vics_sorted h1 hbd)).mono ?_
    rintro e w' ⟨v, rfl, ho, hk⟩
    obtain ⟨A', c', rfl⟩ := row_form ho
    exact ⟨A', c', rfl, ho, hk⟩
  · have e : planv hs f want = ⟨[], 0, 2⟩ := by unfold planv; rw [if_neg hg]
    rw [e]
    refine (plan_bad A n c hs f want w hn hb hL hg).mono ?_
    rintro e w' ⟨rfl, hk⟩
    exact ⟨none, 0, rfl, World.ownsRow_nil _ _ _ _, hk⟩
end Go.Proofs.Ytflljldmcidhgaa
