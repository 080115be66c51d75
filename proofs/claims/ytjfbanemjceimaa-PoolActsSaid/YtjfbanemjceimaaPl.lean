/- A pool in memory; what it tells without a turn. -/
import Derived.Test.YtjfbanemjceimaaPlP
namespace Go.Proofs.Ytjfbanemjceimaa
open Go.RowKit Go.Maps
set_option linter.unusedVariables false
set_option linter.unusedSimpArgs false
set_option linter.unnecessarySimpa false

theorem HM.ne_ {w : World} {mb T : Nat} {f : Int → Int} (h : HM w mb T f) {p : Nat} {t : TypeId} {cs : Array Value} (hb : Blk w p t cs) : p ≠ mb := by
  intro e
  subst e
  obtain ⟨n, D, _, ⟨es, clock, hb', _⟩, _⟩ := h
  unfold Blk at hb
  rw [hb] at hb'
  cases hb'

def ptrs (fbs : List Nat) : Array Value := (fbs.map fun b => Value.pointer (some ⟨b, 0, none⟩)).toArray

theorem ptrs_get {fbs : List Nat} {n b : Nat} (h : fbs[n]? = some b) : (ptrs fbs)[n]? = some (.pointer (some ⟨b, 0, none⟩)) := by
  unfold ptrs; simp [h]

/-- A pool at block p: its table fb, the row of free ones ib, the map mb, the frames' blocks fbs, all from lo on and below hi; the frames' memory elsewhere. -/
structure PL (w : World) (p fb ib cap mb T N Q lo hi : Nat) (fbs : List Nat) (fs : List Fr) (l : List Nat) (f : Int → Int) : Prop where
  idle : Idle w p ib cap (.slice (some ⟨fb, 0, none⟩) N N) (.map (some mb)) (.int .i64 (Q : Int)) l
  capN : N ≤ cap
  tab : Blk w fb 63 (ptrs fbs)
  n1 : fbs.length = N
  fr : ∀ (i b : Nat) (x : Fr), fbs[i]? = some b → fs[i]? = some x → Blk w b 65 #[.int .i64 x.own, .int .i64 x.hand, memVal x.mem]
  mem : ∀ (i : Nat) (x : Fr) (m : Nat) (cs : Array Value), fs[i]? = some x → x.mem = some (m, cs) → Blk w m 5 cs ∧ cs.size = 152064 ∧ ¬ (lo ≤ m ∧ m < hi)
  map : HM w mb T f
  inj : ∀ (i j b : Nat), fbs[i]? = some b → fbs[j]? = some b → i = j
  minj : ∀ (i j : Nat) (x y : Fr) (m : Nat) (cs cs' : Array Value), fs[i]? = some x → fs[j]? = some y → x.mem = some (m, cs) → y.mem = some (m, cs') → i = j
  inp : lo ≤ p ∧ p < hi
  infb : lo ≤ fb ∧ fb < hi
  inib : lo ≤ ib ∧ ib < hi
  inmb : lo ≤ mb ∧ mb < hi
  infr : ∀ (i b : Nat), fbs[i]? = some b → lo ≤ b ∧ b < hi
  hiw : hi ≤ w.heap.size
  N1 : 1 ≤ N
  N64 : N ≤ 64
  Q1 : 1 ≤ Q
  QN : Q ≤ N
  T1 : T ≤ 900000
  books : Books N T fs l f

theorem PL.keep {w w' : World} {p fb ib cap mb T N Q lo hi : Nat} {fbs : List Nat} {fs : List Fr} {l : List Nat} {f : Int → Int} {S : Nat → Prop} (h : PL w p fb ib cap mb T N Q lo hi fbs fs l f) (ho : Only S w w')
    (hs : ∀ k, lo ≤ k → k < hi → ¬ S k) (hm : ∀ (i : Nat) (x : Fr) (m : Nat) (cs : Array Value), fs[i]? = some x → x.mem = some (m, cs) → ¬ S m) : PL w' p fb ib cap mb T N Q lo hi fbs fs l f :=
  { h with
    idle := h.idle.keep ho (hs _ h.inp.1 h.inp.2) (hs _ h.inib.1 h.inib.2)
    tab := ho.blk h.tab (hs _ h.infb.1 h.infb.2)
    fr := fun i b x hb hx => ho.blk (h.fr i b x hb hx) (hs _ (h.infr i b hb).1 (h.infr i b hb).2)
    mem := fun i x m cs hx he => by obtain ⟨a, b, c⟩ := h.mem i x m cs hx he; exact ⟨ho.blk a (hm i x m cs hx he), b, c⟩
    map := h.map.keep ho (hs _ h.inmb.1 h.inmb.2)
    hiw := Nat.le_trans h.hiw ho.size }

theorem PL.kept {w w' : World} {p fb ib cap mb T N Q lo hi : Nat} {fbs : List Nat} {fs : List Fr} {l : List Nat} {f : Int → Int} (h : PL w p fb ib cap mb T N Q lo hi fbs fs l f) (ho : Kept w w') : PL w' p fb ib cap mb T N Q lo hi fbs fs l f :=
  h.keep ho (fun _ _ _ f => f) (fun _ _ _ _ _ _ f => f)

/-- The block of frame n, and the frame. -/
theorem PL.at_ {w : World} {p fb ib cap mb T N Q lo hi : Nat} {fbs : List Nat} {fs : List Fr} {l : List Nat} {f : Int → Int} (h : PL w p fb ib cap mb T N Q lo hi fbs fs l f) {n : Nat} (hn : n < N) :
    ∃ b x, fbs[n]? = some b ∧ fs[n]? = some x ∧ Blk w b 65 #[.int .i64 x.own, .int .i64 x.hand, memVal x.mem] ∧ w.cell? ⟨fb, n, none⟩ = some (.pointer (some ⟨b, 0, none⟩)) := by
  have h1 := h.n1
  have h2 := h.books.len
  refine ⟨fbs[n]'(by omega), fs[n]'(by omega), List.getElem?_eq_getElem _, List.getElem?_eq_getElem _, h.fr n _ _ (List.getElem?_eq_getElem _) (List.getElem?_eq_getElem _), ?_⟩
  rw [h.tab.cell]
  exact ptrs_get (List.getElem?_eq_getElem _)

theorem pnone_ok (p : Nat) (fr sl m : Value) (Q : Nat) (w : World) (hb : Blk w p 30 #[fr, sl, m, .int .i64 (Q : Int)]) (h : 1 ≤ Q) :
    Calls Try.prog 28 #[.pointer (some ⟨p, 0, none⟩)] w fun e w' => e = .returned (.bool false) ∧ w = w' := by
  have h3 := hb.cell 3
  simp at h3
  have hz : ((Q : Int) == 0) = false := by rw [beq_eq_false_iff_ne]; omega
  clear hb
  go_enter Try.func28, Try.ntmps28
  go_wp2_with fail
  go_ret
  exact ⟨rfl, rfl⟩

theorem pnone_nil (w : World) : Calls Try.prog 28 #[.pointer none] w fun e w' => e = .returned (.bool true) ∧ w = w' := by
  go_enter Try.func28, Try.ntmps28
  go_wp2_with fail
  go_ret
  exact ⟨rfl, rfl⟩

theorem pnone_bare (p : Nat) (fr sl m : Value) (w : World) (hb : Blk w p 30 #[fr, sl, m, .int .i64 0]) :
    Calls Try.prog 28 #[.pointer (some ⟨p, 0, none⟩)] w fun e w' => e = .returned (.bool true) ∧ w = w' := by
  have h3 := hb.cell 3
  simp at h3
  clear hb
  go_enter Try.func28, Try.ntmps28
  go_wp2_with fail
  go_ret
  exact ⟨rfl, rfl⟩

section
variable {p fb ib cap mb T N Q lo hi : Nat} {fbs : List Nat} {fs : List Fr} {l : List Nat} {f : Int → Int}

theorem pfree_ok (w : World) (h : PL w p fb ib cap mb T N Q lo hi fbs fs l f) : Calls Try.prog 17 #[.pointer (some ⟨p, 0, none⟩)] w fun e w' => e = .returned (.int .i64 l.length) ∧ w = w' := by
  have k1 := h.idle.box.cell 1
  simp at k1
  have H := Lib.hid h
  clear h
  go_enter Try.func17, Try.ntmps17
  go_wp2_with fail
  refine (pnone_ok p _ _ _ Q _ H.out.idle.box H.out.Q1).mono ?_
  rintro e w' ⟨rfl, rfl⟩
  go_wp2_with fail
  go_ret
  exact ⟨rfl, rfl⟩

theorem fld60 (a : Int) (w : World) : (Instr.field 60 (.agg #[.int .i64 a]) 0).run Try.prog w = .ok (.int .i64 a) w := by kernel_rfl

theorem pheld_ok (o : Int) (w : World) (h : PL w p fb ib cap mb T N Q lo hi fbs fs l f) (h1 : -9223372036854775808 ≤ o) (h2 : o ≤ 9223372036854775807) :
    Calls Try.prog 16 #[.pointer (some ⟨p, 0, none⟩), .int .i64 o] w fun e w' => e = .returned (.int .i64 (f o)) ∧ w = w' := by
  have k2 := h.idle.box.cell 2
  simp at k2
  have hlook := h.map.look h1 h2
  have H := Lib.hid h
  clear h
  have hfl := fld60
  go_enter Try.func16, Try.ntmps16
  go_wp2_with fail
  refine (pnone_ok p _ _ _ Q _ H.out.idle.box H.out.Q1).mono ?_
  rintro e w' ⟨rfl, rfl⟩
  go_wp2_with fail
  go_ret
  exact ⟨rfl, rfl⟩

/-- What is told of frame n. -/
def at0 (fs : List Fr) (g : Fr → Int) (n : Int) : Int := if 0 ≤ n then ((fs[n.toNat]?).map g).getD 0 else 0

set_option maxHeartbeats 1000000 in
theorem powner_ok (n : Int) (w : World) (h : PL w p fb ib cap mb T N Q lo hi fbs fs l f) :
    Calls Try.prog 14 #[.pointer (some ⟨p, 0, none⟩), .int .i64 n] w fun e w' => e = .returned (.int .i64 (at0 fs Fr.own n)) ∧ w = w' := by
  have k0 := h.idle.box.cell 0
  simp at k0
  have hn1 := h.n1
  have hlen := h.books.len
  by_cases h0 : n < 0
  · have H := Lib.hid h
    clear h hn1 hlen
    go_enter Try.func14, Try.ntmps14
    go_wp2_with fail
    refine (pnone_ok p _ _ _ Q _ H.out.idle.box H.out.Q1).mono ?_
    rintro e w' ⟨rfl, rfl⟩
    go_wp2_with fail
    go_ret
    exact ⟨by (unfold at0; rw [if_neg (by omega)]) <;> rfl, rfl⟩
  · obtain ⟨m, rfl⟩ := Int.eq_ofNat_of_zero_le (show 0 ≤ n by omega)
    by_cases hm : m < N
    · obtain ⟨b, x, hb, hx, hbx, hc⟩ := h.at_ hm
      have c0 := hbx.cell 0
      simp at c0
      have e0 : at0 fs Fr.own (m : Int) = x.own := by unfold at0; rw [if_pos (by omega)]; simp [hx]
      have E := Lib.hid e0
      have H := Lib.hid h
      clear h hn1 hlen hb hx hbx e0 h0
      go_enter Try.func14, Try.ntmps14
      go_wp2_with fail
      refine (pnone_ok p _ _ _ Q _ H.out.idle.box H.out.Q1).mono ?_
      rintro e w' ⟨rfl, rfl⟩
      go_wp2_with fail
      go_ret
      exact ⟨by (rw [E.out]) <;> rfl, rfl⟩
    · have e0 : at0 fs Fr.own (m : Int) = 0 := by unfold at0; rw [if_pos (by omega)]; simp [List.getElem?_eq_none (show fs.length ≤ m by omega)]
      have E := Lib.hid e0
      have H := Lib.hid h
      clear h hn1 hlen e0 h0
      go_enter Try.func14, Try.ntmps14
      go_wp2_with fail
      refine (pnone_ok p _ _ _ Q _ H.out.idle.box H.out.Q1).mono ?_
      rintro e w' ⟨rfl, rfl⟩
      go_wp2_with fail
      go_ret
      exact ⟨by (rw [E.out]) <;> rfl, rfl⟩

set_option maxHeartbeats 1000000 in
theorem phandles_ok (n : Int) (w : World) (h : PL w p fb ib cap mb T N Q lo hi fbs fs l f) :
    Calls Try.prog 15 #[.pointer (some ⟨p, 0, none⟩), .int .i64 n] w fun e w' => e = .returned (.int .i64 (at0 fs Fr.hand n)) ∧ w = w' := by
  have k0 := h.idle.box.cell 0
  simp at k0
  have hn1 := h.n1
  have hlen := h.books.len
  by_cases h0 : n < 0
  · have H := Lib.hid h
    clear h hn1 hlen
    go_enter Try.func15, Try.ntmps15
    go_wp2_with fail
    refine (pnone_ok p _ _ _ Q _ H.out.idle.box H.out.Q1).mono ?_
    rintro e w' ⟨rfl, rfl⟩
    go_wp2_with fail
    go_ret
    exact ⟨by (unfold at0; rw [if_neg (by omega)]) <;> rfl, rfl⟩
  · obtain ⟨m, rfl⟩ := Int.eq_ofNat_of_zero_le (show 0 ≤ n by omega)
    by_cases hm : m < N
    · obtain ⟨b, x, hb, hx, hbx, hc⟩ := h.at_ hm
      have c0 := hbx.cell 1
      simp at c0
      have e0 : at0 fs Fr.hand (m : Int) = x.hand := by unfold at0; rw [if_pos (by omega)]; simp [hx]
      have E := Lib.hid e0
      have H := Lib.hid h
      clear h hn1 hlen hb hx hbx e0 h0
      go_enter Try.func15, Try.ntmps15
      go_wp2_with fail
      refine (pnone_ok p _ _ _ Q _ H.out.idle.box H.out.Q1).mono ?_
      rintro e w' ⟨rfl, rfl⟩
      go_wp2_with fail
      go_ret
      exact ⟨by (rw [E.out]) <;> rfl, rfl⟩
    · have e0 : at0 fs Fr.hand (m : Int) = 0 := by unfold at0; rw [if_pos (by omega)]; simp [List.getElem?_eq_none (show fs.length ≤ m by omega)]
      have E := Lib.hid e0
      have H := Lib.hid h
      clear h hn1 hlen e0 h0
      go_enter Try.func15, Try.ntmps15
      go_wp2_with fail
      refine (pnone_ok p _ _ _ Q _ H.out.idle.box H.out.Q1).mono ?_
      rintro e w' ⟨rfl, rfl⟩
      go_wp2_with fail
      go_ret
      exact ⟨by (rw [E.out]) <;> rfl, rfl⟩
end
end Go.Proofs.Ytjfbanemjceimaa
