/- The map that says how many frames an owner has. -/
import Derived.Maps.OwnSet
import Derived.Maps.Views
import Derived.Test.YtjfbanemjceimaaIdD
namespace Go.Proofs.Ytjfbanemjceimaa
open Go.RowKit Go.Maps
set_option linter.unusedVariables false
set_option linter.unusedSimpArgs false
set_option linter.unnecessarySimpa false

/-- How a struct of one number reads. -/
def holdElem : Value → Option (DataW Unit × List MemPlace)
  | .agg cs => match cs.toList with
    | [.int .i64 a] => some (.lit (.int .i64 a), [])
    | _ => none
  | _ => none

theorem holdElem_mk (a : Int) : holdElem (.agg #[.int .i64 a]) = some (.lit (.int .i64 a), []) := rfl

theorem holdElem_inv {v : Value} {a : Int} {p : List MemPlace} (h : holdElem v = some (.lit (.int .i64 a), p)) : v = .agg #[.int .i64 a] := by
  unfold holdElem at h
  split at h
  · split at h
    · rename_i cs x hx
      cases h
      rw [← hx]
    · cases h
  · cases h

/-- f, but a at o. -/
def setAt (f : Int → Int) (o a : Int) : Int → Int := fun x => if x = o then a else f x
theorem setAt_same (f : Int → Int) (o a : Int) : setAt f o a o = a := if_pos rfl
theorem setAt_other (f : Int → Int) {o x : Int} (a : Int) (h : x ≠ o) : setAt f o a x = f x := if_neg h

theorem klaw : Keyed Try.prog 3 := int_keyed Try.underlying3

/-- Block mb is a map that tells f of every owner, behind at most T stores. -/
def HM (w : World) (mb T : Nat) (f : Int → Int) : Prop :=
  ∃ n D, n ≤ T ∧ w.ownsMap Try.prog 3 holdElem mb n D ∧ ∀ o, -9223372036854775808 ≤ o → o ≤ 9223372036854775807 → D.atKey (.int .i64 o) (.lit (.int .i64 0)) = .lit (.int .i64 (f o))

theorem wf64 {o : Int} (h1 : -9223372036854775808 ≤ o) (h2 : o ≤ 9223372036854775807) : (Lit.int .i64 o).wf = true := by
  have e : IntKind.i64.min = -9223372036854775808 := rfl
  simp [Lit.wf]
  omega

theorem HM.made (w : World) : HM (w.alloc (.map #[] 0)) w.heap.size 0 (fun _ => 0) := ⟨0, .map [], Nat.le_refl _, World.ownsMap_made w _ _ _, fun _ _ _ => rfl⟩

theorem HM.lt {w : World} {mb T : Nat} {f : Int → Int} (h : HM w mb T f) : mb < w.heap.size := by
  obtain ⟨n, D, _, ho, _⟩ := h
  exact ho.lt

theorem HM.keep {w w' : World} {mb T : Nat} {f : Int → Int} {S : Nat → Prop} (h : HM w mb T f) (ho : Only S w w') (hn : ¬ S mb) : HM w' mb T f := by
  have hlt := h.lt
  obtain ⟨n, D, h1, ⟨es, clock, hb, F, hs, hD⟩, h3⟩ := h
  exact ⟨n, D, h1, ⟨es, clock, (ho.block mb hlt hn).trans hb, F, hs, hD⟩, h3⟩

theorem HM.look {w : World} {mb T : Nat} {f : Int → Int} (h : HM w mb T f) {o : Int} (h1 : -9223372036854775808 ≤ o) (h2 : o ≤ 9223372036854775807) :
    (Instr.lookup 28 (.map (some mb)) (.int .i64 o) false).run Try.prog w = .ok (.agg #[.int .i64 (f o)]) w := by
  obtain ⟨n, D, _, ho, hat⟩ := h
  obtain ⟨v, ps, hrun, hv⟩ := ho.lookup klaw Try.underlying28 (z := .agg #[.int .i64 0]) (by kernel_rfl) (holdElem_mk 0) (keyOf_int_mk Try.underlying3 (wf64 h1 h2))
  rw [hat o h1 h2] at hv
  rw [hrun, holdElem_inv hv]

theorem HM.store {w : World} {mb T : Nat} {f : Int → Int} (h : HM w mb T f) (hT : T < 1000000) {o : Int} (a : Int) (h1 : -9223372036854775808 ≤ o) (h2 : o ≤ 9223372036854775807) :
    ∃ w', (Instr.mapUpdate 28 (.map (some mb)) (.int .i64 o) (.agg #[.int .i64 a])).run Try.prog w = .ok () w' ∧ HM w' mb (T + 1) (setAt f o a) ∧ Only (fun k => k = mb) w w' := by
  obtain ⟨n, D, hn, ho, hat⟩ := h
  obtain ⟨w', hrun, ho', hg⟩ := ho.update klaw Try.underlying28 (by unfold maxLen; omega) (keyOf_int_mk Try.underlying3 (wf64 h1 h2)) (holdElem_mk a)
  refine ⟨w', hrun, ⟨n + 1, _, by omega, ho', fun x x1 x2 => ?_⟩, ⟨hg.os, hg.tape, hg.output, hg.size, fun k hk hn => hg.block k hk (fun e => hn (by cases e; rfl))⟩⟩
  by_cases e : x = o
  · subst e
    rw [atKey_put_same ho.isMap (by trivial), setAt_same]
  · rw [atKey_put_other (fun h => e (by cases h; rfl)), setAt_other _ _ e]
    exact hat x x1 x2

theorem HM.drop {w : World} {mb T : Nat} {f : Int → Int} (h : HM w mb T f) {o : Int} (h1 : -9223372036854775808 ≤ o) (h2 : o ≤ 9223372036854775807) (ty : TypeId) :
    ∃ w', (Builtin.delete_ #[28, 3] ty #[.map (some mb), .int .i64 o]).run Try.prog w = .ok (.tuple #[]) w' ∧ HM w' mb T (setAt f o 0) ∧ Only (fun k => k = mb) w w' := by
  obtain ⟨n, D, hn, ho, hat⟩ := h
  obtain ⟨w', hrun, ho', ht⟩ := ho.drop klaw Try.underlying28 (keyOf_int_mk Try.underlying3 (wf64 h1 h2)) ty
  have hg := ht.grown
  refine ⟨w', hrun, ⟨n, _, hn, ho', fun x x1 x2 => ?_⟩, ⟨hg.os, hg.tape, hg.output, hg.size, fun k hk hn => hg.block k hk (fun e => hn (by cases e; rfl))⟩⟩
  by_cases e : x = o
  · subst e
    rw [atKey_del_same, setAt_same]
  · rw [atKey_del_other (fun h => e (by cases h; rfl)), setAt_other _ _ e]
    exact hat x x1 x2
end Go.Proofs.Ytjfbanemjceimaa
