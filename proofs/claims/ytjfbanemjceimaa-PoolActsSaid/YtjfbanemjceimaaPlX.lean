/- The other calls with the pool shut; acquires, three, awake. -/
import Derived.Test.YtjfbanemjceimaaPlW
namespace Go.Proofs.Ytjfbanemjceimaa
open Go.RowKit Go.Maps
set_option linter.unusedVariables false
set_option linter.unusedSimpArgs false
set_option linter.unnecessarySimpa false

/-- What Retain leaves. -/
def retained (fs : List Fr) (n o : Int) : List Fr := if why fs n o = 0 then (match fs[n.toNat]? with
  | some x => fs.set n.toNat ⟨x.own, x.hand + 1, x.mem⟩
  | none => fs) else fs

/-- What Release leaves. -/
def released (fs : List Fr) (n o : Int) : List Fr := if why fs n o = 0 then (match fs[n.toNat]? with
  | some x => if x.hand = 1 then fs.set n.toNat ⟨0, 0, x.mem⟩ else fs.set n.toNat ⟨x.own, x.hand - 1, x.mem⟩
  | none => fs) else fs

section
variable {p N Q T lo hi : Nat} {fs : List Fr}

/-- A frame that is an owner's. -/
theorem why_ok {n o : Int} (h : why fs n o = 0) : ∃ (m : Nat) (x : Fr), n = m ∧ fs[m]? = some x ∧ x.own = o ∧ x.own ≠ 0 := by
  unfold why at h
  split at h
  · cases h
  · split at h
    · rename_i h1 h2
      unfold at0 at h1 h2
      split at h1
      · rename_i h3
        obtain ⟨m, rfl⟩ := Int.eq_ofNat_of_zero_le h3
        cases hx : fs[m]? with
        | none => simp [hx] at h1
        | some x =>
          simp [hx] at h1 h2
          exact ⟨m, x, rfl, hx, h2, h1⟩
      · exact absurd rfl h1
    · cases h

theorem pool_retain (n o : Int) (w : World) (h : Pool w p N Q T lo hi fs) (hT : T + 1 ≤ 900000) :
    Calls Try.prog 12 #[.pointer (some ⟨p, 0, none⟩), .int .i64 n, .int .i64 o] w fun e w' => e = .returned (.int .i64 (why fs n o)) ∧ Only (fun k => lo ≤ k ∧ k < hi) w w' ∧ Pool w' p N Q (T + 1) lo hi (retained fs n o) := by
  have hP := h
  obtain ⟨fb, ib, cap, mb, fbs, l, f, h⟩ := h
  by_cases hw : why fs n o = 0
  · obtain ⟨m, x, rfl, hx, rfl, h0⟩ := why_ok hw
    have hm : m < N := by have := (List.getElem?_eq_some_iff.1 hx).1; have := h.books.len; omega
    obtain ⟨b, y, hb, hy, _⟩ := h.at_ hm
    refine (pret_ok m b x w h hb hx h0 hT).mono ?_
    rintro e w' ⟨rfl, ho, hpl⟩
    refine ⟨by rw [hw], ho, fb, ib, cap, mb, fbs, l, f, ?_⟩
    unfold retained
    rw [if_pos hw]
    simpa [hx] using hpl
  · refine (pret_no n o w h hw).mono ?_
    rintro e w' ⟨rfl, rfl⟩
    refine ⟨rfl, Only.refl _ _, ?_⟩
    unfold retained
    rw [if_neg hw]
    exact hP.mono (by omega) hT

theorem pool_release (n o : Int) (w : World) (h : Pool w p N Q T lo hi fs) (hT : T + 1 ≤ 900000) :
    Calls Try.prog 13 #[.pointer (some ⟨p, 0, none⟩), .int .i64 n, .int .i64 o] w fun e w' => e = .returned (.int .i64 (why fs n o)) ∧ Only (fun k => lo ≤ k ∧ k < hi) w w' ∧ Pool w' p N Q (T + 1) lo hi (released fs n o) := by
  have hP := h
  obtain ⟨fb, ib, cap, mb, fbs, l, f, h⟩ := h
  by_cases hw : why fs n o = 0
  · obtain ⟨m, x, rfl, hx, rfl, h0⟩ := why_ok hw
    have hm : m < N := by have := (List.getElem?_eq_some_iff.1 hx).1; have := h.books.len; omega
    obtain ⟨b, y, hb, hy, _⟩ := h.at_ hm
    by_cases h1 : x.hand = 1
    · refine (prel_last m b x w h hb hx h0 h1 hT).mono ?_
      rintro e w' ⟨rfl, ho, l', hpl⟩
      refine ⟨by rw [hw], ho, fb, ib, cap, mb, fbs, l', setAt f x.own (f x.own + -1), ?_⟩
      unfold released
      rw [if_pos hw]
      simpa [hx, h1] using hpl
    · refine (prel_some m b x w h hb hx h0 h1).mono ?_
      rintro e w' ⟨rfl, ho, hpl⟩
      have hq : Pool w' p N Q T lo hi (fs.set m ⟨x.own, x.hand - 1, x.mem⟩) := ⟨fb, ib, cap, mb, fbs, l, f, hpl⟩
      refine ⟨by rw [hw], ho, ?_⟩
      unfold released
      rw [if_pos hw]
      simpa [hx, h1] using hq.mono (show T ≤ T + 1 by omega) hT
  · refine (prel_no n o w h hw).mono ?_
    rintro e w' ⟨rfl, rfl⟩
    refine ⟨rfl, Only.refl _ _, ?_⟩
    unfold released
    rw [if_neg hw]
    exact hP.mono (by omega) hT

theorem pool_handles (n : Int) (w : World) (h : Pool w p N Q T lo hi fs) : Calls Try.prog 15 #[.pointer (some ⟨p, 0, none⟩), .int .i64 n] w fun e w' => e = .returned (.int .i64 (at0 fs Fr.hand n)) ∧ w = w' := by
  obtain ⟨fb, ib, cap, mb, fbs, l, f, h⟩ := h
  exact phandles_ok n w h

theorem pool_owner (n : Int) (w : World) (h : Pool w p N Q T lo hi fs) : Calls Try.prog 14 #[.pointer (some ⟨p, 0, none⟩), .int .i64 n] w fun e w' => e = .returned (.int .i64 (at0 fs Fr.own n)) ∧ w = w' := by
  obtain ⟨fb, ib, cap, mb, fbs, l, f, h⟩ := h
  exact powner_ok n w h

theorem pool_held (o : Int) (w : World) (h : Pool w p N Q T lo hi fs) (h1 : -9223372036854775808 ≤ o) (h2 : o ≤ 9223372036854775807) :
    Calls Try.prog 16 #[.pointer (some ⟨p, 0, none⟩), .int .i64 o] w fun e w' => e = .returned (.int .i64 (if 0 < o then (cnt fs o : Int) else 0)) ∧ w = w' := by
  obtain ⟨fb, ib, cap, mb, fbs, l, f, h⟩ := h
  rw [← h.books.cnt o]
  exact pheld_ok o w h h1 h2

/-- How many are free. -/
theorem PL.free_len {w : World} {fb ib cap mb : Nat} {fbs : List Nat} {l : List Nat} {f : Int → Int} (h : PL w p fb ib cap mb T N Q lo hi fbs fs l f) : l.length = cnt fs 0 := by
  have hb := h.books
  have h1 : l.Perm ((List.range fs.length).filter fun i => ((fs[i]?).map Fr.own) == some 0) := by
    rw [List.perm_ext_iff_of_nodup hb.nd (List.nodup_range.filter _)]
    intro i
    rw [hb.free i, List.mem_filter, List.mem_range]
    constructor
    · rintro ⟨x, hx, h0⟩
      exact ⟨(List.getElem?_eq_some_iff.1 hx).1, by simp [hx, h0]⟩
    · rintro ⟨hi, h0⟩
      refine ⟨fs[i], List.getElem?_eq_getElem hi, ?_⟩
      simpa [List.getElem?_eq_getElem hi] using h0
  rw [h1.length_eq, ← List.countP_eq_length_filter]
  unfold cnt
  have : ∀ gs : List Fr, List.countP (fun i => ((gs[i]?).map Fr.own) == some 0) (List.range gs.length) = List.countP (fun x : Fr => x.own == 0) gs := by
    intro gs
    have e : (List.range gs.length).map (fun i => gs[i]?) = gs.map some := by
      apply List.ext_getElem?
      intro i
      by_cases hi : i < gs.length
      · simp [hi]
      · simp [List.getElem?_eq_none (show gs.length ≤ i by omega)]
        omega
    have h2 := congrArg (List.countP (fun y : Option Fr => (y.map Fr.own) == some 0)) e
    rw [List.countP_map, List.countP_map] at h2
    rw [show (fun i => ((gs[i]?).map Fr.own) == some 0) = (fun y : Option Fr => (y.map Fr.own) == some 0) ∘ (fun i => gs[i]?) from rfl, h2]
    congr 1
  exact this fs
end
end Go.Proofs.Ytjfbanemjceimaa
