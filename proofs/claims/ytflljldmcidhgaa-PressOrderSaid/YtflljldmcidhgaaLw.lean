/- What the laws share: a list of holders that came in, how many frames one has, what Plan answers. -/
import Derived.Test.YtflljldmcidhgaaKn
import Derived.Test.YtflljldmcidhgaaPick
namespace Go.Proofs.Ytflljldmcidhgaa
open Go.ChangeShapes Go.WideShapes Go.ChangeAt Go.RowKit Go.Joins
set_option linter.unusedVariables false
set_option linter.unusedSimpArgs false
set_option linter.unnecessarySimpa false

theorem cells41 : Try.prog.cellsOf 41 = 2 := by kernel_rfl

instance : Inhabited Hd := ⟨⟨0, 0⟩⟩

/-- Its numbers are ints. -/
def Hd.wide (x : Hd) : Prop := -9223372036854775808 ≤ x.id ∧ x.id ≤ 9223372036854775807 ∧ -9223372036854775808 ≤ x.fr ∧ x.fr ≤ 9223372036854775807

section
variable {H : Type} {enc : TypeId × Value → H} {W : World}

theorem holder_cells {n : Nat} {cs : List Value} {x : DataW H × List MemPlace} (h : DataW.trod enc Try.prog W 0 (fun _ => true) true n 41 cs = some x) (hl : cs.length = 2) :
    ∃ a : Hd, cs = a.cells ∧ a.wide := by
  obtain ⟨y0, y1, m, _, _, h0, h1⟩ := trod_struct2 Try.underlying41 h
  match cs, hl with
  | [c0, c1], _ =>
    simp [cells3] at h0 h1
    obtain ⟨a, e0, _, w0⟩ := DataW.trod_int Try.underlying3 h0
    obtain ⟨b, e1, _, w1⟩ := DataW.trod_int Try.underlying3 h1
    simp at e0 e1
    subst e0 e1
    have b0 := bounds_i64 w0
    have b1 := bounds_i64 w1
    exact ⟨⟨a, b⟩, rfl, b0.1, b0.2, b1.1, b1.2⟩

/-- A slice that came in at no address is nil. -/
theorem nil_slice {t e n c : Nat} {v : Value} {d : DataW H} {p : List MemPlace} (ht : Try.prog.underlying t = some (.slice e)) (h : DataW.Trod enc Try.prog W 0 (fun _ => true) true t v d p) (hv : v = .slice none n c) : c = 0 := by
  obtain ⟨fuel, hf⟩ := h
  subst hv
  rcases Deep.open_slice ht hf with ⟨hcs, _⟩ | ⟨a, len, cap, m, n, D, Pl, hcs, _⟩
  · simp [Value.cells] at hcs
    exact hcs.2
  · simp [Value.cells] at hcs

theorem holders_of {base : Nat} {v : Value} {d : DataW H} {p : List MemPlace} (hv : Value.okWide Try.prog W .any base 22 v) (h : DataW.Trod enc Try.prog W 0 (fun _ => true) true 22 v d p) :
    ∃ A n cap hs, v = .slice A n cap ∧ hs.length = n ∧ n ≤ 9223372036854775807 ∧ Hs W A hs ∧ (∀ x ∈ hs, Hd.wide x) ∧ (A = none → cap = 0) := by
  have hnil := fun (n c : Nat) => nil_slice (n := n) (c := c) Try.underlying22 h
  obtain ⟨A, n, cap, rfl, hn, hr⟩ := open_rows (k := 2) Try.underlying22 cells41 (by omega) hv h
  rcases Nat.eq_zero_or_pos n with h0 | h0
  · subst h0
    exact ⟨A, 0, cap, [], rfl, rfl, hn, fun hne => absurd rfl hne, by simp, fun e => hnil 0 cap (by rw [e])⟩
  · obtain ⟨b, off, rfl, hb, hrow⟩ := hr h0
    have hex : ∀ i, i < n → ∃ a : Hd, (∀ j u, a.cells[j]? = some u → W.cell? ⟨b, off + i * 2 + j, none⟩ = some u) ∧ a.wide := by
      intro i hi
      obtain ⟨cs, m, x, hl, ht, hc⟩ := hrow i hi
      obtain ⟨a, rfl, hw⟩ := holder_cells ht hl
      exact ⟨a, hc, hw⟩
    obtain ⟨f, hf⟩ := Deep.choose_lt hex
    refine ⟨_, n, cap, (List.range n).map f, rfl, by simp, hn, fun _ => ⟨b, off, rfl, hb, fun i a ha => ?_⟩, ?_, fun e => by cases e⟩
    · have hi : i < n := by
        have := (List.getElem?_eq_some_iff.1 ha).1
        simpa using this
      have : a = f i := by simp [hi] at ha; exact ha.symm
      subst this
      obtain ⟨hc, _⟩ := hf i hi
      exact ⟨by simpa using hc 0 _ rfl, hc 1 _ rfl⟩
    · intro a ha
      simp at ha
      obtain ⟨i, hi, rfl⟩ := ha
      exact (hf i hi).2
end

/-- Nobody else has a holder's number. -/
theorem good_one {hs : List Hd} (h : Good hs) {i j : Nat} {x y : Hd} (hx : hs[i]? = some x) (hy : hs[j]? = some y) (e : x.id = y.id) : i = j := by
  have hn := ((Good.iff hs).1 h).2.2
  rw [List.nodup_iff_pairwise_ne, List.pairwise_map, List.pairwise_iff_getElem] at hn
  obtain ⟨hi, rfl⟩ := List.getElem?_eq_some_iff.1 hx
  obtain ⟨hj, rfl⟩ := List.getElem?_eq_some_iff.1 hy
  rcases Nat.lt_trichotomy i j with h | h | h
  · exact absurd e (hn i j hi hj h)
  · exact h
  · exact absurd e.symm (hn j i hj hi h)

theorem frames_calls (A : Option Addr) (n c : Nat) (hs : List Hd) (x : Hd) (w : World) (hn : hs.length = n) (hL : Hs w A hs) (hg : Good hs) (hx : x ∈ hs) :
    Calls Try.prog 24 #[.slice A n c, .int .i64 x.id] w fun e w' => e = .returned (.int .i64 x.fr) ∧ w = w' := by
  obtain ⟨m, hm⟩ := List.mem_iff_getElem?.1 hx
  have hmn : m < n := by have := (List.getElem?_eq_some_iff.1 hm).1; omega
  have h64 := hg.1
  rw [hn] at h64
  obtain ⟨g, o, hA, _, hc⟩ := hL (by rintro rfl; cases hx)
  subst hA
  have HN := Lib.hid hn
  have HC := Lib.hid hc
  have HG := Lib.hid hg
  have HM := Lib.hid hm
  clear hn hL hg hx hc hm
  go_enter Try.func24, Try.ntmps24
  go_wp2_with fail
  go_loop [5] (fun v => ∃ k : Nat, v = .int .i64 k ∧ k ≤ m) (fun v => n - (intOf v).toNat)
  case atStart => exact ⟨0, rfl, by omega⟩
  case round =>
    obtain ⟨k, rfl, hk⟩ := hrel
    have hkn : k < n := by omega
    obtain ⟨y, hy⟩ : ∃ y, hs[k]? = some y := ⟨_, List.getElem?_eq_getElem (by rw [HN.out]; exact hkn)⟩
    obtain ⟨c1, c2⟩ := HC.out k y hy
    by_cases he : k = m
    · have hyx : y = x := by have := HM.out; rw [← he, hy] at this; cases this; rfl
      subst hyx
      clear hy he
      go_wp2_with fail
      go_ret
      exact ⟨rfl, rfl⟩
    · have hne : (y.id == x.id) = false := by
        rw [beq_eq_false_iff_ne]
        intro e
        exact he (good_one HG.out hy HM.out e)
      have hlt : k < m := by omega
      clear hy he
      go_wp2_with fail
      go_round
      case rel => exact ⟨k + 1, by go_num, by omega⟩
      case measure => simp [intOf]; omega

/-! What Plan answers. -/
theorem plan_prefix : ∀ (V : List Hd) (f want : Int), plan V f want <+: V
  | [], _, _ => List.prefix_refl _
  | x :: V, f, want => by
    unfold plan
    split
    · exact List.nil_prefix
    · exact (List.prefix_cons_inj x).2 (plan_prefix V _ _)

theorem plan_short : ∀ (V : List Hd) (f want : Int), Short f want (plan V f want)
  | [], _, _ => fun q hq hne => absurd (List.prefix_nil.1 hq) hne
  | x :: V, f, want => by
    unfold plan
    split
    · intro q hq hne; exact absurd (List.prefix_nil.1 hq) hne
    · rename_i h
      intro q hq hne
      cases q with
      | nil => simp [sumfr]; omega
      | cons y q =>
        obtain ⟨rfl, hq'⟩ := List.cons_prefix_cons.1 hq
        have := plan_short V (f + y.fr) want q hq' (fun e => hne (by rw [e]))
        rw [sumfr_cons]
        omega

theorem plan_enough : ∀ (V : List Hd) (f want : Int), want ≤ f + sumfr (plan V f want) ∨ plan V f want = V
  | [], _, _ => .inr rfl
  | x :: V, f, want => by
    unfold plan
    split
    · left; simp [sumfr]; omega
    · rw [sumfr_cons]
      rcases plan_enough V (f + x.fr) want with h | h
      · left; omega
      · right; rw [h]

theorem sumfr_perm {a b : List Hd} (h : a.Perm b) : sumfr a = sumfr b := by
  induction h with
  | nil => rfl
  | cons x _ ih => rw [sumfr_cons, sumfr_cons, ih]
  | swap x y l => rw [sumfr_cons, sumfr_cons, sumfr_cons, sumfr_cons]; omega
  | trans _ _ ih1 ih2 => exact ih1.trans ih2

theorem sumfr_full : ∀ {hs : List Hd}, (∀ x ∈ hs, 0 ≤ x.fr) → sumfr (full hs) = sumfr hs
  | [], _ => rfl
  | x :: l, h => by
    have ih := sumfr_full (hs := l) (fun y hy => h y (by simp [hy]))
    have hx := h x (by simp)
    unfold full at ih ⊢
    rw [sumfr_cons, List.filter_cons]
    split
    · rw [sumfr_cons, ih]
    · rename_i hf
      simp at hf
      omega

theorem short_take {f want : Int} {P : List Hd} {k : Nat} (h : Short f want P) (hk : k < P.length) : f + sumfr (P.take k) < want :=
  h _ (List.take_prefix k P) (fun e => by have := congrArg List.length e; simp at this; omega)
end Go.Proofs.Ytflljldmcidhgaa
