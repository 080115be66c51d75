/- Acquire. -/
import Derived.Test.YtjfbanemjceimaaPl
namespace Go.Proofs.Ytjfbanemjceimaa
open Go.RowKit Go.Maps
set_option linter.unusedVariables false
set_option linter.unusedSimpArgs false
set_option linter.unnecessarySimpa false

/-- The pool's head, its row, its map and one frame's block. -/
def Few (p ib mb b : Nat) (k : Nat) : Prop := k = p ∨ k = ib ∨ k = mb ∨ k = b

section
variable {p fb ib cap mb T N Q lo hi : Nat} {fbs : List Nat} {fs : List Fr} {l : List Nat} {f : Int → Int}

/-- The pool behind a turn of its head, its row, its map and one frame. -/
theorem PL.turned {w w' : World} (h : PL w p fb ib cap mb T N Q lo hi fbs fs l f) {n b T' : Nat} {x x' : Fr} {l' : List Nat} {f' : Int → Int} (hb : fbs[n]? = some b) (hx : fs[n]? = some x) (ho : Only (Few p ib mb b) w w')
    (hi' : Idle w' p ib cap (.slice (some ⟨fb, 0, none⟩) N N) (.map (some mb)) (.int .i64 (Q : Int)) l') (hm : HM w' mb T' f') (hbx : Blk w' b 65 #[.int .i64 x'.own, .int .i64 x'.hand, memVal x'.mem]) (hmem : x'.mem = x.mem)
    (hT : T' ≤ 900000) (hB : Books N T' (fs.set n x') l' f') : PL w' p fb ib cap mb T' N Q lo hi fbs (fs.set n x') l' f' := by
  obtain ⟨rcs, hrow, _⟩ := h.idle.row
  have hbb := h.fr n b x hb hx
  have nf : ¬ Few p ib mb b fb := by
    rintro (e | e | e | e)
    · exact h.tab.ne_ h.idle.box (by decide) e
    · exact h.tab.ne_ hrow (by decide) e
    · exact h.map.ne_ h.tab e
    · exact h.tab.ne_ hbb (by decide) e
  have hn := (List.getElem?_eq_some_iff.1 hx).1
  exact { h with
    idle := hi'
    tab := ho.blk h.tab nf
    fr := fun i c y hc hy => by
      by_cases e : i = n
      · subst e
        rw [hb] at hc; cases hc
        rw [List.getElem?_set_self hn] at hy; cases hy
        exact hbx
      · rw [List.getElem?_set_ne (fun q => e q.symm)] at hy
        have hcy := h.fr i c y hc hy
        refine ho.blk hcy ?_
        rintro (g | g | g | g)
        · exact hcy.ne_ h.idle.box (by decide) g
        · exact hcy.ne_ hrow (by decide) g
        · exact h.map.ne_ hcy g
        · subst g; exact e (h.inj i n _ hc hb)
    mem := fun i y m cs hy he => by
      have old : ∀ (j : Nat) (z : Fr), fs[j]? = some z → z.mem = some (m, cs) → Blk w' m 5 cs ∧ cs.size = 152064 ∧ ¬ (lo ≤ m ∧ m < hi) := fun j z hz hz' => by
        obtain ⟨a1, a2, a3⟩ := h.mem j z m cs hz hz'
        refine ⟨ho.blk a1 ?_, a2, a3⟩
        rintro (g | g | g | g)
        · exact a1.ne_ h.idle.box (by decide) g
        · exact a1.ne_ hrow (by decide) g
        · exact h.map.ne_ a1 g
        · exact a1.ne_ hbb (by decide) g
      by_cases e : i = n
      · subst e
        rw [List.getElem?_set_self hn] at hy; cases hy
        exact old i x hx (by rw [← hmem]; exact he)
      · rw [List.getElem?_set_ne (fun q => e q.symm)] at hy
        exact old i y hy he
    map := hm
    minj := fun i j y z m cs cs' hy hz hym hzm => by
      have key : ∀ (k : Nat) (u : Fr) (c : Array Value), (fs.set n x')[k]? = some u → u.mem = some (m, c) → ∃ v : Fr, fs[k]? = some v ∧ v.mem = some (m, c) := fun k u c hu hc => by
        by_cases e : k = n
        · subst e
          rw [List.getElem?_set_self hn] at hu; cases hu
          exact ⟨x, hx, by rw [← hmem]; exact hc⟩
        · rw [List.getElem?_set_ne (fun q => e q.symm)] at hu
          exact ⟨u, hu, hc⟩
      obtain ⟨y', hy', hym'⟩ := key i y cs hy hym
      obtain ⟨z', hz', hzm'⟩ := key j z cs' hz hzm
      exact h.minj i j y' z' m cs cs' hy' hz' hym' hzm'
    hiw := Nat.le_trans h.hiw ho.size
    T1 := hT
    books := hB }

theorem PL.few {w : World} (h : PL w p fb ib cap mb T N Q lo hi fbs fs l f) {n b : Nat} (hb : fbs[n]? = some b) : ∀ k, Few p ib mb b k → lo ≤ k ∧ k < hi := by
  rintro k (rfl | rfl | rfl | rfl)
  · exact h.inp
  · exact h.inib
  · exact h.inmb
  · exact h.infr n k hb

theorem pacq_range (o : Int) (w : World) (h : PL w p fb ib cap mb T N Q lo hi fbs fs l f) (ho : o < 1 ∨ 2147483647 < o) :
    Calls Try.prog 8 #[.pointer (some ⟨p, 0, none⟩), .int .i64 o] w fun e w' => e = .returned (.tuple #[.int .i64 0, .int .i64 3]) ∧ w = w' := by
  have H := Lib.hid h
  clear h
  by_cases h1 : o < 1
  · go_enter Try.func8, Try.ntmps8
    go_wp2_with fail
    refine (pnone_ok p _ _ _ Q _ H.out.idle.box H.out.Q1).mono ?_
    rintro e w' ⟨rfl, rfl⟩
    go_wp2_with fail
    go_returns
    exact ⟨rfl, rfl⟩
  · have h2 : 2147483647 < o := by omega
    go_enter Try.func8, Try.ntmps8
    go_wp2_with fail
    refine (pnone_ok p _ _ _ Q _ H.out.idle.box H.out.Q1).mono ?_
    rintro e w' ⟨rfl, rfl⟩
    go_wp2_with fail
    go_returns
    exact ⟨rfl, rfl⟩

theorem pacq_quota (o : Int) (w : World) (h : PL w p fb ib cap mb T N Q lo hi fbs fs l f) (h1 : 1 ≤ o) (h2 : o ≤ 2147483647) (hq : (Q : Int) ≤ f o) :
    Calls Try.prog 8 #[.pointer (some ⟨p, 0, none⟩), .int .i64 o] w fun e w' => e = .returned (.tuple #[.int .i64 0, .int .i64 17]) ∧ Kept w w' := by
  have k2 := h.idle.box.cell 2
  have k3 := h.idle.box.cell 3
  simp at k2 k3
  have hlook : ∀ q, (Instr.lookup 28 (.map (some mb)) (.int .i64 o) false).run Try.prog (w.drewN q) = .ok (.agg #[.int .i64 (f o)]) (w.drewN q) := fun q => (h.map.keep ((Only.refl (fun _ => False) w).drewN q) (fun f => f)).look (by omega) (by omega)
  have hlook0 := h.map.look (o := o) (by omega) (by omega)
  have hfl := fld60
  obtain ⟨g, hg⟩ : ∃ g, f o = g := ⟨_, rfl⟩
  rw [hg] at hq hlook0
  simp only [hg] at hlook
  have hqd : decide ((Q : Int) ≤ g) = true := decide_eq_true hq
  have H := Lib.hid h
  clear h hg
  go_enter Try.func8, Try.ntmps8
  go_wp2_with fail
  refine (pnone_ok p _ _ _ Q _ H.out.idle.box H.out.Q1).mono ?_
  rintro e w' ⟨rfl, rfl⟩
  go_wp2_with fail
  go_quiet (fail)
  go_wp2_with fail
  go_returns
  exact ⟨rfl, ⟨rfl, rfl, rfl, Nat.le_refl _, fun _ _ _ => rfl⟩⟩

theorem pacq_full (o : Int) (w : World) (h : PL w p fb ib cap mb T N Q lo hi fbs fs l f) (h1 : 1 ≤ o) (h2 : o ≤ 2147483647) (hq : f o < (Q : Int)) (hl : l = []) :
    Calls Try.prog 8 #[.pointer (some ⟨p, 0, none⟩), .int .i64 o] w fun e w' => e = .returned (.tuple #[.int .i64 0, .int .i64 15]) ∧ Kept w w' := by
  have k1 := h.idle.box.cell 1
  have k2 := h.idle.box.cell 2
  have k3 := h.idle.box.cell 3
  simp at k1 k2 k3
  subst hl
  have hlook : ∀ q, (Instr.lookup 28 (.map (some mb)) (.int .i64 o) false).run Try.prog (w.drewN q) = .ok (.agg #[.int .i64 (f o)]) (w.drewN q) := fun q => (h.map.keep ((Only.refl (fun _ => False) w).drewN q) (fun f => f)).look (by omega) (by omega)
  have hlook0 := h.map.look (o := o) (by omega) (by omega)
  have hfl := fld60
  obtain ⟨g, hg⟩ : ∃ g, f o = g := ⟨_, rfl⟩
  rw [hg] at hq hlook0
  simp only [hg] at hlook
  have hqd : decide ((Q : Int) ≤ g) = false := decide_eq_false (by omega)
  have H := Lib.hid h
  clear h hg
  go_enter Try.func8, Try.ntmps8
  go_wp2_with fail
  refine (pnone_ok p _ _ _ Q _ H.out.idle.box H.out.Q1).mono ?_
  rintro e w' ⟨rfl, rfl⟩
  go_wp2_with fail
  go_quiet (fail)
  go_wp2_with fail
  go_returns
  exact ⟨rfl, ⟨rfl, rfl, rfl, Nat.le_refl _, fun _ _ _ => rfl⟩⟩
end
end Go.Proofs.Ytjfbanemjceimaa
