/- Lemmas for the law's proof, part 6. -/
import Derived.Test.YtpcioegnchiheaaGreatDoorT05
import Derived.Test.YtpcioegnchiheaaGreatDoorT04
import Derived.Test.YtpcioegnchiheaaGreatDoorT03
import Derived.Shelf.Strings.Builder1
import Derived.Shelf.Strings.OnBuilder
import Derived.Shelf.Strconv.Itoa3
import Derived.Shelf.LaysM
import Derived.Test.YtpcioegnchiheaaGreatDoorProg
import Derived.Lib.AppendIntMem
set_option linter.unusedSimpArgs false
set_option linter.unusedVariables false
set_option linter.constructorNameAsVariable false
set_option linter.unnecessarySimpa false
section
/- Facts, whether they are the same. -/
namespace Go.Fw.Ro
open Go Go.Fw Go.Fw.Sys
set_option maxRecDepth 100000
variable {H : Mem} {K : AV → Mem → Prop}
theorem Equal_loop {v w : AV} {xs ys : List (List UInt8)} {Q : Ex → Tr → Mem → Prop} (hv : SlR 1 Rs H.get v xs) (hw : SlR 1 Rs H.get w ys) (hl : xs.length = ys.length) (hn : xs.length ≤ 1000000) : ∀ (r t : List (List UInt8)) (i : Nat) (f : Nat → AV), xs.drop i = r → ys.drop i = t → i + r.length = xs.length → f 0 = v → f 1 = w → f 12 = .i .i64 xs.length → f 13 = .i .i64 i →
    (∀ f', r ≠ t → f' 4 = .b false → Q .rt (trO 26 f') H) → (∀ f', r = t → Q (.ex 0) (trO 26 f') H) → @W S false (.loop lp_slices_Equal_string_string_0) (trO 26 f) H ⟨Q⟩ := by
  intro r
  induction r with
  | nil =>
    intro t i f h1 h2 h3 f0 f1 f12 f13 k1 k2
    simp at h3
    have : t = [] := by rw [← h2]; exact List.drop_eq_nil_of_le (by omega)
    rw [w_loop]
    unfold lp_slices_Equal_string_string_0
    simp (disch := first | omega | (simp only [List.length_cons, List.length_nil, true_and, and_true, nx_push, nx_put, nx_mark]; done) | (simp only [List.length_cons, List.length_nil, true_and, and_true, nx_push, nx_put, nx_mark]; omega)) only [go_sem, ↓reduceIte, Nat.reduceAdd, Nat.reduceMul, Nat.reduceSub, Int.reduceToNat, UInt8.reduceToNat, Nat.reduceLeDiff, Nat.reduceEqDiff, Nat.sub_zero, Int.add_zero, Int.zero_add, Nat.add_zero, Nat.zero_add, Nat.zero_mul, f0, f1, f12, f13]
    exact atQ 26 rfl (k2 _ this.symm)
  | cons x r ih =>
    intro t i f h1 h2 h3 f0 f1 f12 f13 k1 k2
    simp at h3
    cases t with
    | nil => have := congrArg List.length h2; simp at this; omega
    | cons y t =>
      have hx : xs[i]? = some x := by rw [← List.head?_drop, h1]; rfl
      have hy : ys[i]? = some y := by rw [← List.head?_drop, h2]; rfl
      have hr1 : xs.drop (i + 1) = r := by rw [← List.drop_drop, h1]; rfl
      have ht1 : ys.drop (i + 1) = t := by rw [← List.drop_drop, h2]; rfl
      obtain ⟨id, p, c, y1, y2, y3, y4, y5, y6⟩ := hv.at_ hx
      obtain ⟨jd, q, d, z1, z2, z3, z4, z5, z6⟩ := hw.at_ hy
      simp only [Rs] at y2 z2
      subst y2 z2
      have y7 : ldO (H.get id) false 1 p = some (.s x) := y3 0 (by omega)
      have z7 : ldO (H.get jd) false 1 q = some (.s y) := z3 0 (by omega)
      rw [w_loop]
      unfold lp_slices_Equal_string_string_0
      simp (disch := first | omega | (simp only [List.length_cons, List.length_nil, true_and, and_true, nx_push, nx_put, nx_mark]; done) | (simp only [List.length_cons, List.length_nil, true_and, and_true, nx_push, nx_put, nx_mark]; omega)) only [go_sem, ↓reduceIte, Nat.reduceAdd, Nat.reduceMul, Nat.reduceSub, Int.reduceToNat, UInt8.reduceToNat, Nat.reduceLeDiff, Nat.reduceEqDiff, Nat.sub_zero, Int.add_zero, Int.zero_add, Nat.add_zero, Nat.zero_add, Nat.zero_mul, f0, f1, f12, f13]
      refine w_dregA rfl rfl ?_
      simp (disch := first | omega | (simp only [List.length_cons, List.length_nil, true_and, and_true, nx_push, nx_put, nx_mark]; done) | (simp only [List.length_cons, List.length_nil, true_and, and_true, nx_push, nx_put, nx_mark]; omega)) only [go_sem, ↓reduceIte, Nat.reduceAdd, Nat.reduceMul, Nat.reduceSub, Int.reduceToNat, UInt8.reduceToNat, Nat.reduceLeDiff, Nat.reduceEqDiff, Nat.sub_zero, Int.add_zero, Int.zero_add, Nat.add_zero, Nat.zero_add, Nat.zero_mul, f0, f1, f12, f13, y1, y7, z1, z7]
      refine cnd_dec (fun hne => ?_) (fun he => ?_)
      · simp (disch := first | omega | (simp only [List.length_cons, List.length_nil, true_and, and_true, nx_push, nx_put, nx_mark]; done) | (simp only [List.length_cons, List.length_nil, true_and, and_true, nx_push, nx_put, nx_mark]; omega)) only [go_sem, ↓reduceIte, Nat.reduceAdd, Nat.reduceMul, Nat.reduceSub, Int.reduceToNat, UInt8.reduceToNat, Nat.reduceLeDiff, Nat.reduceEqDiff, Nat.sub_zero, Int.add_zero, Int.zero_add, Nat.add_zero, Nat.zero_add, Nat.zero_mul]
        exact atQ 26 rfl (k1 _ (fun e => hne (List.cons.inj e).1) rfl)
      · simp (disch := first | omega | (simp only [List.length_cons, List.length_nil, true_and, and_true, nx_push, nx_put, nx_mark]; done) | (simp only [List.length_cons, List.length_nil, true_and, and_true, nx_push, nx_put, nx_mark]; omega)) only [go_sem, ↓reduceIte, Nat.reduceAdd, Nat.reduceMul, Nat.reduceSub, Int.reduceToNat, UInt8.reduceToNat, Nat.reduceLeDiff, Nat.reduceEqDiff, Nat.sub_zero, Int.add_zero, Int.zero_add, Nat.add_zero, Nat.zero_add, Nat.zero_mul]
        have he : x = y := Decidable.byContradiction he
        refine atW 26 rfl (ih t (i + 1) _ hr1 ht1 (by omega) rfl rfl rfl rfl (fun f' a b => k1 f' (fun e => a (List.cons.inj e).2) b) (fun f' a => k2 f' (by rw [he, a])))
theorem Equal_run {v w : AV} {xs ys : List (List UInt8)} (hv : SlR 1 Rs H.get v xs) (hw : SlR 1 Rs H.get w ys) (hn : xs.length ≤ 1000000) (h : K (.b (decide (xs = ys))) H) : @R S (.f n_slices_Equal_string_string) [v, w] H ⟨K⟩ := by
  refine run_fn2 rfl rfl ?_
  unfold bd_slices_Equal_string_string
  have l1 := hv.len
  have l2 := hw.len
  simp (disch := first | omega | (simp only [List.length_cons, List.length_nil, true_and, and_true, nx_push, nx_put, nx_mark]; done) | (simp only [List.length_cons, List.length_nil, true_and, and_true, nx_push, nx_put, nx_mark]; omega)) only [go_sem, ↓reduceIte, Nat.reduceAdd, Nat.reduceMul, Nat.reduceSub, Int.reduceToNat, UInt8.reduceToNat, Nat.reduceLeDiff, Nat.reduceEqDiff, Nat.sub_zero, Int.add_zero, Int.zero_add, Nat.add_zero, Nat.zero_add, Nat.zero_mul, l1, l2]
  by_cases hl : xs.length = ys.length
  · have hl' : (xs.length : Int) = ys.length := by omega
    simp (disch := first | omega | (simp only [List.length_cons, List.length_nil, true_and, and_true, nx_push, nx_put, nx_mark]; done) | (simp only [List.length_cons, List.length_nil, true_and, and_true, nx_push, nx_put, nx_mark]; omega)) only [go_sem, ↓reduceIte, Nat.reduceAdd, Nat.reduceMul, Nat.reduceSub, Int.reduceToNat, UInt8.reduceToNat, Nat.reduceLeDiff, Nat.reduceEqDiff, Nat.sub_zero, Int.add_zero, Int.zero_add, Nat.add_zero, Nat.zero_add, Nat.zero_mul, l1, l2]
    refine atW 26 rfl (Equal_loop (H := H.mark []) hv hw hl hn xs ys 0 _ rfl rfl (by omega) rfl rfl rfl rfl (fun f' a b => ?_) (fun f' a => ?_))
    · simp (disch := first | omega | (simp only [List.length_cons, List.length_nil, true_and, and_true, nx_push, nx_put, nx_mark]; done) | (simp only [List.length_cons, List.length_nil, true_and, and_true, nx_push, nx_put, nx_mark]; omega)) only [go_sem, ↓reduceIte, Nat.reduceAdd, Nat.reduceMul, Nat.reduceSub, Int.reduceToNat, UInt8.reduceToNat, Nat.reduceLeDiff, Nat.reduceEqDiff, Nat.sub_zero, Int.add_zero, Int.zero_add, Nat.add_zero, Nat.zero_add, Nat.zero_mul, b]
      exact kb (by simp [a]) h
    · simp (disch := first | omega | (simp only [List.length_cons, List.length_nil, true_and, and_true, nx_push, nx_put, nx_mark]; done) | (simp only [List.length_cons, List.length_nil, true_and, and_true, nx_push, nx_put, nx_mark]; omega)) only [go_sem, ↓reduceIte, Nat.reduceAdd, Nat.reduceMul, Nat.reduceSub, Int.reduceToNat, UInt8.reduceToNat, Nat.reduceLeDiff, Nat.reduceEqDiff, Nat.sub_zero, Int.add_zero, Int.zero_add, Nat.add_zero, Nat.zero_add, Nat.zero_mul]
      exact kb (by simp [a]) h
  · have ne : xs ≠ ys := fun e => hl (by rw [e])
    simp (disch := first | omega | (simp only [List.length_cons, List.length_nil, true_and, and_true, nx_push, nx_put, nx_mark]; done) | (simp only [List.length_cons, List.length_nil, true_and, and_true, nx_push, nx_put, nx_mark]; omega)) only [go_sem, ↓reduceIte, Nat.reduceAdd, Nat.reduceMul, Nat.reduceSub, Int.reduceToNat, UInt8.reduceToNat, Nat.reduceLeDiff, Nat.reduceEqDiff, Nat.sub_zero, Int.add_zero, Int.zero_add, Nat.add_zero, Nat.zero_add, Nat.zero_mul, l1, l2]
    exact kb (by simp [ne]) h
def sameF (x y : FactT) : Bool := decide (x.kind = y.kind) && decide (x.A = y.A) && decide (x.B = y.B) && decide (x.C = y.C) && decide (x.N = y.N) && decide (x.L = y.L)
theorem same_run {c d : List AV} {x y : FactT} (hc : Rfact H.get c x) (hd : Rfact H.get d y) (hw : Wf H) (hn : x.L.length ≤ 1000000) (h : ∀ H', Ext H.next H H' → K (.b (sameF x y)) H') : @R S (.f n_role_same) [.agg c, .agg d] H ⟨K⟩ := by
  obtain ⟨g, rfl, gr⟩ := hc
  obtain ⟨g', rfl, gr'⟩ := hd
  have g1 := gr.one
  have g2 := gr'.one
  refine run_fn2 rfl rfl ?_
  unfold bd_role_same
  simp only [factC]
  have hx : ∀ o o', Ext H.next (H.mark []) (((H.mark []).push o).push o') := fun o o' => (((Ext.refl (H := H.mark []) hw).push _ (Nat.le_refl _)).push _ (by first | omega | (simp only [nx_push, nx_put, nx_mark]; done) | (simp only [nx_push, nx_put, nx_mark]; omega)))
  have hx' : ∀ o o', Ext H.next H ((H.push o).push o') := fun o o' => (((Ext.refl hw).push _ (Nat.le_refl _)).push _ (by first | omega | (simp only [nx_push, nx_put, nx_mark]; done) | (simp only [nx_push, nx_put, nx_mark]; omega)))
  simp (disch := first | omega | (simp only [List.length_cons, List.length_nil, true_and, and_true, nx_push, nx_put, nx_mark]; done) | (simp only [List.length_cons, List.length_nil, true_and, and_true, nx_push, nx_put, nx_mark]; omega)) only [go_sem, ↓reduceIte, Nat.reduceAdd, Nat.reduceMul, Nat.reduceSub, Int.reduceToNat, UInt8.reduceToNat, Nat.reduceLeDiff, Nat.reduceEqDiff, Nat.sub_zero, Int.add_zero, Int.zero_add, Nat.add_zero, Nat.zero_add, Nat.zero_mul, g1, g2]
  by_cases h1 : x.kind = y.kind
  · by_cases h2 : x.A = y.A
    · by_cases h3 : x.B = y.B
      · by_cases h4 : x.C = y.C
        · by_cases h5 : x.N = y.N
          · simp (disch := first | omega | (simp only [List.length_cons, List.length_nil, true_and, and_true, nx_push, nx_put, nx_mark]; done) | (simp only [List.length_cons, List.length_nil, true_and, and_true, nx_push, nx_put, nx_mark]; omega)) only [go_sem, ↓reduceIte, Nat.reduceAdd, Nat.reduceMul, Nat.reduceSub, Int.reduceToNat, UInt8.reduceToNat, Nat.reduceLeDiff, Nat.reduceEqDiff, Nat.sub_zero, Int.add_zero, Int.zero_add, Nat.add_zero, Nat.zero_add, Nat.zero_mul, h1, h2, h3, h4, h5]
            refine Equal_run ((gr.mono Rs_mono (le_up (H := H.mark []) (hx _ _) hw (Nat.le_refl _)))) ((gr'.mono Rs_mono (le_up (H := H.mark []) (hx _ _) hw (Nat.le_refl _)))) hn ?_
            have e : sameF x y = decide (x.L = y.L) := by simp [sameF, h1, h2, h3, h4, h5]
            rw [e] at h
            simp (disch := first | omega | (simp only [List.length_cons, List.length_nil, true_and, and_true, nx_push, nx_put, nx_mark]; done) | (simp only [List.length_cons, List.length_nil, true_and, and_true, nx_push, nx_put, nx_mark]; omega)) only [go_sem, ↓reduceIte, Nat.reduceAdd, Nat.reduceMul, Nat.reduceSub, Int.reduceToNat, UInt8.reduceToNat, Nat.reduceLeDiff, Nat.reduceEqDiff, Nat.sub_zero, Int.add_zero, Int.zero_add, Nat.add_zero, Nat.zero_add, Nat.zero_mul]
            exact h _ (hx' _ _)
          · have e : sameF x y = false := by simp [sameF, h5]
            rw [e] at h
            simp (disch := first | omega | (simp only [List.length_cons, List.length_nil, true_and, and_true, nx_push, nx_put, nx_mark]; done) | (simp only [List.length_cons, List.length_nil, true_and, and_true, nx_push, nx_put, nx_mark]; omega)) only [go_sem, ↓reduceIte, Nat.reduceAdd, Nat.reduceMul, Nat.reduceSub, Int.reduceToNat, UInt8.reduceToNat, Nat.reduceLeDiff, Nat.reduceEqDiff, Nat.sub_zero, Int.add_zero, Int.zero_add, Nat.add_zero, Nat.zero_add, Nat.zero_mul, h1, h2, h3, h4, h5]
            exact h _ (hx' _ _)
        · have e : sameF x y = false := by simp [sameF, h4]
          rw [e] at h
          simp (disch := first | omega | (simp only [List.length_cons, List.length_nil, true_and, and_true, nx_push, nx_put, nx_mark]; done) | (simp only [List.length_cons, List.length_nil, true_and, and_true, nx_push, nx_put, nx_mark]; omega)) only [go_sem, ↓reduceIte, Nat.reduceAdd, Nat.reduceMul, Nat.reduceSub, Int.reduceToNat, UInt8.reduceToNat, Nat.reduceLeDiff, Nat.reduceEqDiff, Nat.sub_zero, Int.add_zero, Int.zero_add, Nat.add_zero, Nat.zero_add, Nat.zero_mul, h1, h2, h3, h4]
          exact h _ (hx' _ _)
      · have e : sameF x y = false := by simp [sameF, h3]
        rw [e] at h
        simp (disch := first | omega | (simp only [List.length_cons, List.length_nil, true_and, and_true, nx_push, nx_put, nx_mark]; done) | (simp only [List.length_cons, List.length_nil, true_and, and_true, nx_push, nx_put, nx_mark]; omega)) only [go_sem, ↓reduceIte, Nat.reduceAdd, Nat.reduceMul, Nat.reduceSub, Int.reduceToNat, UInt8.reduceToNat, Nat.reduceLeDiff, Nat.reduceEqDiff, Nat.sub_zero, Int.add_zero, Int.zero_add, Nat.add_zero, Nat.zero_add, Nat.zero_mul, h1, h2, h3]
        exact h _ (hx' _ _)
    · have e : sameF x y = false := by simp [sameF, h2]
      rw [e] at h
      simp (disch := first | omega | (simp only [List.length_cons, List.length_nil, true_and, and_true, nx_push, nx_put, nx_mark]; done) | (simp only [List.length_cons, List.length_nil, true_and, and_true, nx_push, nx_put, nx_mark]; omega)) only [go_sem, ↓reduceIte, Nat.reduceAdd, Nat.reduceMul, Nat.reduceSub, Int.reduceToNat, UInt8.reduceToNat, Nat.reduceLeDiff, Nat.reduceEqDiff, Nat.sub_zero, Int.add_zero, Int.zero_add, Nat.add_zero, Nat.zero_add, Nat.zero_mul, h1, h2]
      exact h _ (hx' _ _)
  · have e : sameF x y = false := by simp [sameF, h1]
    rw [e] at h
    simp (disch := first | omega | (simp only [List.length_cons, List.length_nil, true_and, and_true, nx_push, nx_put, nx_mark]; done) | (simp only [List.length_cons, List.length_nil, true_and, and_true, nx_push, nx_put, nx_mark]; omega)) only [go_sem, ↓reduceIte, Nat.reduceAdd, Nat.reduceMul, Nat.reduceSub, Int.reduceToNat, UInt8.reduceToNat, Nat.reduceLeDiff, Nat.reduceEqDiff, Nat.sub_zero, Int.add_zero, Int.zero_add, Nat.add_zero, Nat.zero_add, Nat.zero_mul, h1]
    exact h _ (hx' _ _)
def eqFs : List FactT → List FactT → Bool
  | [], [] => true
  | x :: r, y :: t => sameF x y && eqFs r t
  | _, _ => false
theorem eqFs_len : ∀ {xs ys : List FactT}, eqFs xs ys = true → xs.length = ys.length
  | [], [], _ => rfl
  | x :: r, y :: t, h => by simp only [eqFs, Bool.and_eq_true] at h; simp [eqFs_len h.2]
  | [], _ :: _, h => by simp [eqFs] at h
  | _ :: _, [], h => by simp [eqFs] at h
theorem EqF_loop {v w : AV} {xs ys : List FactT} {H0 : Mem} {Q : Ex → Tr → Mem → Prop} (w0 : Wf H0) (hv : SlR 7 Rfact H0.get v xs) (hw : SlR 7 Rfact H0.get w ys) (hl : xs.length = ys.length) (hn : xs.length ≤ 1000000) (hL : ∀ x ∈ xs, x.L.length ≤ 1000000) : ∀ (r t : List FactT) (i : Nat) (f : Nat → AV) (H : Mem), xs.drop i = r → ys.drop i = t → i + r.length = xs.length → Ext H0.next H0 H → f 1 = w → f 2 = .fn n_role_same [] [] → f 15 = v → f 16 = .i .i64 xs.length → f 17 = .i .i64 i →
    (∀ f' H', eqFs r t = false → f' 6 = .b false → Ext H0.next H0 H' → Q .rt (trO 32 f') H') → (∀ f' H', eqFs r t = true → Ext H0.next H0 H' → Q (.ex 0) (trO 32 f') H') → @W S false (.loop lp_slices_EqualFunc_api_Fact_api_Fact_api_Fact_api_Fact_0) (trO 32 f) H ⟨Q⟩ := by
  intro r
  induction r with
  | nil =>
    intro t i f H h1 h2 h3 hx f1 f2 f15 f16 f17 k1 k2
    simp at h3
    have : t = [] := by rw [← h2]; exact List.drop_eq_nil_of_le (by omega)
    rw [w_loop]
    unfold lp_slices_EqualFunc_api_Fact_api_Fact_api_Fact_api_Fact_0
    simp (disch := first | omega | (simp only [List.length_cons, List.length_nil, true_and, and_true, nx_push, nx_put, nx_mark]; done) | (simp only [List.length_cons, List.length_nil, true_and, and_true, nx_push, nx_put, nx_mark]; omega)) only [go_sem, ↓reduceIte, Nat.reduceAdd, Nat.reduceMul, Nat.reduceSub, Int.reduceToNat, UInt8.reduceToNat, Nat.reduceLeDiff, Nat.reduceEqDiff, Nat.sub_zero, Int.add_zero, Int.zero_add, Nat.add_zero, Nat.zero_add, Nat.zero_mul, f1, f2, f15, f16, f17]
    exact atQ 32 rfl (k2 _ H (by rw [this]; rfl) hx)
  | cons x r ih =>
    intro t i f H h1 h2 h3 hE f1 f2 f15 f16 f17 k1 k2
    simp at h3
    cases t with
    | nil => have := congrArg List.length h2; simp at this; omega
    | cons y t =>
      have hx : xs[i]? = some x := by rw [← List.head?_drop, h1]; rfl
      have hy : ys[i]? = some y := by rw [← List.head?_drop, h2]; rfl
      have hr1 : xs.drop (i + 1) = r := by rw [← List.drop_drop, h1]; rfl
      have ht1 : ys.drop (i + 1) = t := by rw [← List.drop_drop, h2]; rfl
      have hlx := hL x (List.mem_of_getElem? hx)
      obtain ⟨id, p, c, y1, y2, y3, y4, y5, y6⟩ := (hv.mono Rfact_mono (le_up hE w0 (Nat.le_refl _))).at_ hx
      obtain ⟨jd, q, d, z1, z2, z3, z4, z5, z6⟩ := (hw.mono Rfact_mono (le_up hE w0 (Nat.le_refl _))).at_ hy
      obtain ⟨g, rfl, gr⟩ := y2
      obtain ⟨g', rfl, gr'⟩ := z2
      have hid := hE.wf id y6
      have hjd := hE.wf jd z6
      have g1 := gr.one
      have g2 := gr'.one
      have n0 := hE.next
      rw [w_loop]
      unfold lp_slices_EqualFunc_api_Fact_api_Fact_api_Fact_api_Fact_0
      simp only [factC] at y4 z4
      simp (disch := first | omega | (simp only [List.length_cons, List.length_nil, true_and, and_true, nx_push, nx_put, nx_mark]; done) | (simp only [List.length_cons, List.length_nil, true_and, and_true, nx_push, nx_put, nx_mark]; omega)) only [go_sem, ↓reduceIte, Nat.reduceAdd, Nat.reduceMul, Nat.reduceSub, Int.reduceToNat, UInt8.reduceToNat, Nat.reduceLeDiff, Nat.reduceEqDiff, Nat.sub_zero, Int.add_zero, Int.zero_add, Nat.add_zero, Nat.zero_add, Nat.zero_mul, f1, f2, f15, f16, f17, y1, y4, z1, z4, g1, g2]
      have hE1 : ∀ o1 o2 o3 o4, Ext H.next H ((((H.push o1).put H.next o2).push o3).put (H.next + 1) o4) := fun _ _ _ _ => ((((Ext.refl hE.wf).push _ (Nat.le_refl _)).put (Nat.le_refl _) (by first | omega | (simp only [nx_push, nx_put, nx_mark]; done) | (simp only [nx_push, nx_put, nx_mark]; omega)) _).push _ (by first | omega | (simp only [nx_push, nx_put, nx_mark]; done) | (simp only [nx_push, nx_put, nx_mark]; omega))).put (by first | omega | (simp only [nx_push, nx_put, nx_mark]; done) | (simp only [nx_push, nx_put, nx_mark]; omega)) (by first | omega | (simp only [nx_push, nx_put, nx_mark]; done) | (simp only [nx_push, nx_put, nx_mark]; omega)) _
      refine same_run (x := x) (y := y) ⟨g, rfl, gr.mono Rs_mono (le_up (hE1 _ _ _ _) hE.wf (Nat.le_refl _))⟩ ⟨g', rfl, gr'.mono Rs_mono (le_up (hE1 _ _ _ _) hE.wf (Nat.le_refl _))⟩ (hE1 _ _ _ _).wf hlx (fun H2 x2 => ?_)
      have hE2 : Ext H0.next H0 H2 := (hE.trans (hE1 _ _ _ _) n0).trans x2 (by simp only [nx_push, nx_put]; omega)
      cases hs : sameF x y with
      | false =>
        simp (disch := first | omega | (simp only [List.length_cons, List.length_nil, true_and, and_true, nx_push, nx_put, nx_mark]; done) | (simp only [List.length_cons, List.length_nil, true_and, and_true, nx_push, nx_put, nx_mark]; omega)) only [go_sem, ↓reduceIte, Nat.reduceAdd, Nat.reduceMul, Nat.reduceSub, Int.reduceToNat, UInt8.reduceToNat, Nat.reduceLeDiff, Nat.reduceEqDiff, Nat.sub_zero, Int.add_zero, Int.zero_add, Nat.add_zero, Nat.zero_add, Nat.zero_mul]
        exact atQ 32 rfl (k1 _ _ (by simp only [eqFs, hs]; rfl) rfl hE2)
      | true =>
        simp (disch := first | omega | (simp only [List.length_cons, List.length_nil, true_and, and_true, nx_push, nx_put, nx_mark]; done) | (simp only [List.length_cons, List.length_nil, true_and, and_true, nx_push, nx_put, nx_mark]; omega)) only [go_sem, ↓reduceIte, Nat.reduceAdd, Nat.reduceMul, Nat.reduceSub, Int.reduceToNat, UInt8.reduceToNat, Nat.reduceLeDiff, Nat.reduceEqDiff, Nat.sub_zero, Int.add_zero, Int.zero_add, Nat.add_zero, Nat.zero_add, Nat.zero_mul]
        have e : eqFs (x :: r) (y :: t) = eqFs r t := by simp only [eqFs, hs]; rfl
        rw [e] at k1 k2
        refine atW 32 rfl (ih t (i + 1) _ H2 hr1 ht1 (by omega) hE2 rfl rfl rfl rfl rfl k1 k2)
theorem EqF_run {v w : AV} {xs ys : List FactT} (hv : SlR 7 Rfact H.get v xs) (hy : SlR 7 Rfact H.get w ys) (hw : Wf H) (hn : xs.length ≤ 1000000) (hL : ∀ x ∈ xs, x.L.length ≤ 1000000) (h : ∀ H', Ext H.next H H' → K (.b (eqFs xs ys)) H') : @R S (.f n_slices_EqualFunc_api_Fact_api_Fact_api_Fact_api_Fact) [v, w, .fn n_role_same [] []] H ⟨K⟩ := by
  refine run_fn2 rfl rfl ?_
  unfold bd_slices_EqualFunc_api_Fact_api_Fact_api_Fact_api_Fact
  have l1 := hv.len
  have l2 := hy.len
  by_cases hl : xs.length = ys.length
  · have hl' : (xs.length : Int) = ys.length := by omega
    simp (disch := first | omega | (simp only [List.length_cons, List.length_nil, true_and, and_true, nx_push, nx_put, nx_mark]; done) | (simp only [List.length_cons, List.length_nil, true_and, and_true, nx_push, nx_put, nx_mark]; omega)) only [go_sem, ↓reduceIte, Nat.reduceAdd, Nat.reduceMul, Nat.reduceSub, Int.reduceToNat, UInt8.reduceToNat, Nat.reduceLeDiff, Nat.reduceEqDiff, Nat.sub_zero, Int.add_zero, Int.zero_add, Nat.add_zero, Nat.zero_add, Nat.zero_mul, l1, l2]
    refine atW 32 rfl (EqF_loop (H0 := H.mark []) hw hv hy hl hn hL xs ys 0 _ (H.mark []) rfl rfl (by omega) (Ext.refl (H := H.mark []) hw) rfl rfl rfl rfl rfl (fun f' H' a b c => ?_) (fun f' H' a c => ?_))
    · have hm : H'.marks = [] := c.marks
      rw [a] at h
      simp (disch := first | omega | (simp only [List.length_cons, List.length_nil, true_and, and_true, nx_push, nx_put, nx_mark]; done) | (simp only [List.length_cons, List.length_nil, true_and, and_true, nx_push, nx_put, nx_mark]; omega)) only [go_sem, ↓reduceIte, Nat.reduceAdd, Nat.reduceMul, Nat.reduceSub, Int.reduceToNat, UInt8.reduceToNat, Nat.reduceLeDiff, Nat.reduceEqDiff, Nat.sub_zero, Int.add_zero, Int.zero_add, Nat.add_zero, Nat.zero_add, Nat.zero_mul, b, hm]
      exact h _ (Ext.mark c)
    · have hm : H'.marks = [] := c.marks
      rw [a] at h
      simp (disch := first | omega | (simp only [List.length_cons, List.length_nil, true_and, and_true, nx_push, nx_put, nx_mark]; done) | (simp only [List.length_cons, List.length_nil, true_and, and_true, nx_push, nx_put, nx_mark]; omega)) only [go_sem, ↓reduceIte, Nat.reduceAdd, Nat.reduceMul, Nat.reduceSub, Int.reduceToNat, UInt8.reduceToNat, Nat.reduceLeDiff, Nat.reduceEqDiff, Nat.sub_zero, Int.add_zero, Int.zero_add, Nat.add_zero, Nat.zero_add, Nat.zero_mul, hm]
      exact h _ (Ext.mark c)
  · have e : eqFs xs ys = false := by
      cases e : eqFs xs ys with
      | false => rfl
      | true => exact absurd (eqFs_len e) hl
    rw [e] at h
    simp (disch := first | omega | (simp only [List.length_cons, List.length_nil, true_and, and_true, nx_push, nx_put, nx_mark]; done) | (simp only [List.length_cons, List.length_nil, true_and, and_true, nx_push, nx_put, nx_mark]; omega)) only [go_sem, ↓reduceIte, Nat.reduceAdd, Nat.reduceMul, Nat.reduceSub, Int.reduceToNat, UInt8.reduceToNat, Nat.reduceLeDiff, Nat.reduceEqDiff, Nat.sub_zero, Int.add_zero, Int.zero_add, Nat.add_zero, Nat.zero_add, Nat.zero_mul, l1, l2]
    exact h _ (Ext.refl hw)
end Go.Fw.Ro
end
section
/- Builders; a text of facts. -/
namespace Go.Fw.Ro
open Go Go.Fw Go.Fw.Sys
set_option maxRecDepth 100000
variable {H : Mem} {K : AV → Mem → Prop}
def Rb : Gt → List AV → UInt8 → Prop := fun _ c x => c = [.i .u8 x.toNat]
theorem Rb_mono : Mono Rb := fun _ _ _ _ _ h => h
/-- A Builder, and what it holds. -/
def BO (id : Nat) (s : List UInt8) (H : Mem) : Prop := ∃ a v, H.get id = .mem [.p a, v] 0 ty_strings_Builder true 0 ∧ (a = none ∨ a = some (id, 0)) ∧ SlO 1 ty_uint8 Rb (id + 1) H v s
theorem copy_new {id : Nat} {v : AV} (hg : H.get id = .mem [.p none, v] 0 ty_strings_Builder true 0) (h : K (.tup []) (H.put id (.mem [.p (some (id, 0)), v] 0 ty_strings_Builder true 0))) : @R S (.f n_strings_Builder_copyCheck) [.p (some (id, 0))] H ⟨K⟩ := by
  refine run_told (v := .tup []) (H' := _) ?_ h
  have SX : S.X = Xr := rfl
  rw [SX]
  unfold Xr
  have e1 : extA n_internal_bytealg_IndexByteString n_internal_bytealg_CountString n_strings_Join (.f n_strings_Builder_copyCheck) [.p (some (id, 0))] H = none := rfl
  have e2 : extR n_strconv_Itoa n_strings_Builder_copyCheck n_strings_Builder_String ty_strings_Builder ty_uint8 (.f n_strings_Builder_copyCheck) [.p (some (id, 0))] H = some (.tup [], H.put id (.mem [.p (some (id, 0)), v] 0 ty_strings_Builder true 0)) := by
    show (match H.get id with
        | .mem [.p none, b] 0 t true 0 => bif Nat.beq t ty_strings_Builder then some ((.tup [] : AV), H.put id (.mem [.p (some (id, 0)), b] 0 t true 0)) else none
        | _ => none) = _
    rw [hg]; rfl
  rw [e1]; exact e2
theorem copy_old {id t : Nat} {v : AV} (hg : H.get id = .mem [.p (some (id, 0)), v] 0 t true 0) (h : K (.tup []) H) : @R S (.f n_strings_Builder_copyCheck) [.p (some (id, 0))] H ⟨K⟩ := by
  have e : S.X (.f n_strings_Builder_copyCheck) [.p (some (id, 0))] H = none := by
    have SX : S.X = Xr := rfl
    rw [SX]
    unfold Xr
    have e1 : extA n_internal_bytealg_IndexByteString n_internal_bytealg_CountString n_strings_Join (.f n_strings_Builder_copyCheck) [.p (some (id, 0))] H = none := rfl
    have e2 : extR n_strconv_Itoa n_strings_Builder_copyCheck n_strings_Builder_String ty_strings_Builder ty_uint8 (.f n_strings_Builder_copyCheck) [.p (some (id, 0))] H = none := by
      show (match H.get id with
          | .mem [.p none, b] 0 t true 0 => bif Nat.beq t ty_strings_Builder then some ((.tup [] : AV), H.put id (.mem [.p (some (id, 0)), b] 0 t true 0)) else none
          | _ => none) = _
      rw [hg]
    rw [e1]; exact e2
  refine run_fn2 rfl e ?_
  unfold bd_strings_Builder_copyCheck
  have b1 : binA .eql .ptr (.p (some (id, 0))) (.p none) = some (.b false) := rfl
  have b2 : binA .neq .ptr (.p (some (id, 0))) (.p (some (id, 0))) = some (.b false) := by simp [binA, eqA]
  simp (disch := first | omega | (simp only [List.length_cons, List.length_nil, true_and, and_true, nx_push, nx_put, nx_mark]; done) | (simp only [List.length_cons, List.length_nil, true_and, and_true, nx_push, nx_put, nx_mark]; omega)) only [go_sem, ↓reduceIte, Nat.reduceAdd, Nat.reduceMul, Nat.reduceSub, Int.reduceToNat, UInt8.reduceToNat, Nat.reduceLeDiff, Nat.reduceEqDiff, Nat.sub_zero, Int.add_zero, Int.zero_add, Nat.add_zero, Nat.zero_add, Nat.zero_mul, hg, b1, b2]
  exact h
theorem Rb_cells {t : List UInt8} : ((t.map fun c => (AV.i .u8 (c.toNat : Int))).all AV.one = true) ∧ Els 1 Rb H.get (t.map fun c => (AV.i .u8 (c.toNat : Int))) 0 t := by
  refine ⟨by simp [AV.one], ⟨by simp, fun j x hx => ?_⟩⟩
  have hj := (List.getElem?_eq_some_iff.1 hx).1
  show _ = _
  apply List.ext_getElem?
  intro q
  cases q with
  | zero => simp [hx]
  | succ q => simp [hx]; omega
theorem Write_run {id : Nat} {s t : List UInt8} (hB : BO id s H) (hw : Wf H) (hl : s.length + t.length ≤ 140737488355328) (h : ∀ H', Ext id H H' → BO id (s ++ t) H' → K (.tup [.i .i64 t.length, .nif]) H') : @R S (.f n_strings_Builder_WriteString) [.p (some (id, 0)), .s t] H ⟨K⟩ := by
  obtain ⟨a, v, hg, ha, hv⟩ := hB
  have hid := hw.lt hg (by simp)
  have v1 := hv.one
  refine run_fn2 rfl rfl ?_
  unfold bd_strings_Builder_WriteString
  simp (disch := first | omega | (simp only [List.length_cons, List.length_nil, true_and, and_true, nx_push, nx_put, nx_mark]; done) | (simp only [List.length_cons, List.length_nil, true_and, and_true, nx_push, nx_put, nx_mark]; omega)) only [go_sem, ↓reduceIte, Nat.reduceAdd, Nat.reduceMul, Nat.reduceSub, Int.reduceToNat, UInt8.reduceToNat, Nat.reduceLeDiff, Nat.reduceEqDiff, Nat.sub_zero, Int.add_zero, Int.zero_add, Nat.add_zero, Nat.zero_add, Nat.zero_mul]
  rcases ha with rfl | rfl
  · refine copy_new (H := H.mark []) hg ?_
    have hv' := hv.put (id := id) (o := .mem [.p (some (id, 0)), v] 0 ty_strings_Builder true 0) (by omega)
    have hw1 : Wf (H.put id (.mem [.p (some (id, 0)), v] 0 ty_strings_Builder true 0)) := hw.put hid _
    simp (disch := first | omega | (simp only [List.length_cons, List.length_nil, true_and, and_true, nx_push, nx_put, nx_mark]; done) | (simp only [List.length_cons, List.length_nil, true_and, and_true, nx_push, nx_put, nx_mark]; omega)) only [go_sem, ↓reduceIte, Nat.reduceAdd, Nat.reduceMul, Nat.reduceSub, Int.reduceToNat, UInt8.reduceToNat, Nat.reduceLeDiff, Nat.reduceEqDiff, Nat.sub_zero, Int.add_zero, Int.zero_add, Nat.add_zero, Nat.zero_add, Nat.zero_mul, hv'.one]
    refine onE_of (SlO.app (H := (H.mark []).put id (.mem [.p (some (id, 0)), v] 0 ty_strings_Builder true 0)) (H1 := (H.mark []).put id (.mem [.p (some (id, 0)), v] 0 ty_strings_Builder true 0)) (ys := t) Rb_mono hv' hw1 (by first | omega | (simp only [nx_push, nx_put, nx_mark]; done) | (simp only [nx_push, nx_put, nx_mark]; omega)) (Ext.refl (H := (H.mark []).put id (.mem [.p (some (id, 0)), v] 0 ty_strings_Builder true 0)) hw1) rfl (by simp) (Rb_cells (H := H)).1 ⟨(Rb_cells (H := H)).2.le, (Rb_cells (H := H)).2.el⟩ (by omega) rfl (by omega) (by omega)) (fun v' H2 hh => ?_)
    have E0 : Ext id (H.mark []) ((H.mark []).put id (.mem [.p (some (id, 0)), v] 0 ty_strings_Builder true 0)) := (Ext.refl (H := H.mark []) hw).put (Nat.le_refl _) hid _
    obtain ⟨O2, E2, L2⟩ := hh
    have gb := E2.of (id := id) (o := .mem [.p (some (id, 0)), v] 0 ty_strings_Builder true 0) (by simp (disch := first | omega | (simp only [List.length_cons, List.length_nil, true_and, and_true, nx_push, nx_put, nx_mark]; done) | (simp only [List.length_cons, List.length_nil, true_and, and_true, nx_push, nx_put, nx_mark]; omega)) only [go_sem, ↓reduceIte, Nat.reduceAdd, Nat.reduceMul, Nat.reduceSub, Int.reduceToNat, UInt8.reduceToNat, Nat.reduceLeDiff, Nat.reduceEqDiff, Nat.sub_zero, Int.add_zero, Int.zero_add, Nat.add_zero, Nat.zero_add, Nat.zero_mul]; try exact hg) (by omega)
    have e2 : Ext id (H.mark []) H2 := (E0).trans E2 (by omega)
    have hm2 : H2.marks = [] := e2.marks
    have nx2 := E2.next
    simp only [nx_put, nx_mark] at nx2
    have v21 := O2.one
    have v2c := cells_of_one v21
    simp (disch := first | omega | (simp only [List.length_cons, List.length_nil, true_and, and_true, nx_push, nx_put, nx_mark]; done) | (simp only [List.length_cons, List.length_nil, true_and, and_true, nx_push, nx_put, nx_mark]; omega)) only [go_sem, ↓reduceIte, Nat.reduceAdd, Nat.reduceMul, Nat.reduceSub, Int.reduceToNat, UInt8.reduceToNat, Nat.reduceLeDiff, Nat.reduceEqDiff, Nat.sub_zero, Int.add_zero, Int.zero_add, Nat.add_zero, Nat.zero_add, Nat.zero_mul, gb, v21, v2c, hm2]
    exact h _ ((Ext.mark e2).put (Nat.le_refl _) (by first | omega | (simp only [nx_push, nx_put, nx_mark]; done) | (simp only [nx_push, nx_put, nx_mark]; omega)) _) ⟨_, v', by simp (disch := first | omega | (simp only [List.length_cons, List.length_nil, true_and, and_true, nx_push, nx_put, nx_mark]; done) | (simp only [List.length_cons, List.length_nil, true_and, and_true, nx_push, nx_put, nx_mark]; omega)) only [go_sem, ↓reduceIte, Nat.reduceAdd, Nat.reduceMul, Nat.reduceSub, Int.reduceToNat, UInt8.reduceToNat, Nat.reduceLeDiff, Nat.reduceEqDiff, Nat.sub_zero, Int.add_zero, Int.zero_add, Nat.add_zero, Nat.zero_add, Nat.zero_mul], .inr rfl, (O2.mark (l := H.marks)).put (by omega)⟩
  · refine copy_old (H := H.mark []) hg ?_
    simp (disch := first | omega | (simp only [List.length_cons, List.length_nil, true_and, and_true, nx_push, nx_put, nx_mark]; done) | (simp only [List.length_cons, List.length_nil, true_and, and_true, nx_push, nx_put, nx_mark]; omega)) only [go_sem, ↓reduceIte, Nat.reduceAdd, Nat.reduceMul, Nat.reduceSub, Int.reduceToNat, UInt8.reduceToNat, Nat.reduceLeDiff, Nat.reduceEqDiff, Nat.sub_zero, Int.add_zero, Int.zero_add, Nat.add_zero, Nat.zero_add, Nat.zero_mul, hg, v1]
    refine onE_of (SlO.app (H := H.mark []) (H1 := H.mark []) (ys := t) Rb_mono hv hw (by first | omega | (simp only [nx_push, nx_put, nx_mark]; done) | (simp only [nx_push, nx_put, nx_mark]; omega)) (Ext.refl (H := H.mark []) hw) rfl (by simp) (Rb_cells (H := H)).1 ⟨(Rb_cells (H := H)).2.le, (Rb_cells (H := H)).2.el⟩ (by omega) rfl (by omega) (by omega)) (fun v' H2 hh => ?_)
    have E0 : Ext id (H.mark []) (H.mark []) := Ext.refl (H := H.mark []) hw
    obtain ⟨O2, E2, L2⟩ := hh
    have gb := E2.of (id := id) (o := .mem [.p (some (id, 0)), v] 0 ty_strings_Builder true 0) (by simp (disch := first | omega | (simp only [List.length_cons, List.length_nil, true_and, and_true, nx_push, nx_put, nx_mark]; done) | (simp only [List.length_cons, List.length_nil, true_and, and_true, nx_push, nx_put, nx_mark]; omega)) only [go_sem, ↓reduceIte, Nat.reduceAdd, Nat.reduceMul, Nat.reduceSub, Int.reduceToNat, UInt8.reduceToNat, Nat.reduceLeDiff, Nat.reduceEqDiff, Nat.sub_zero, Int.add_zero, Int.zero_add, Nat.add_zero, Nat.zero_add, Nat.zero_mul]; try exact hg) (by omega)
    have e2 : Ext id (H.mark []) H2 := (E0).trans E2 (by omega)
    have hm2 : H2.marks = [] := e2.marks
    have nx2 := E2.next
    simp only [nx_put, nx_mark] at nx2
    have v21 := O2.one
    have v2c := cells_of_one v21
    simp (disch := first | omega | (simp only [List.length_cons, List.length_nil, true_and, and_true, nx_push, nx_put, nx_mark]; done) | (simp only [List.length_cons, List.length_nil, true_and, and_true, nx_push, nx_put, nx_mark]; omega)) only [go_sem, ↓reduceIte, Nat.reduceAdd, Nat.reduceMul, Nat.reduceSub, Int.reduceToNat, UInt8.reduceToNat, Nat.reduceLeDiff, Nat.reduceEqDiff, Nat.sub_zero, Int.add_zero, Int.zero_add, Nat.add_zero, Nat.zero_add, Nat.zero_mul, gb, v21, v2c, hm2]
    exact h _ ((Ext.mark e2).put (Nat.le_refl _) (by first | omega | (simp only [nx_push, nx_put, nx_mark]; done) | (simp only [nx_push, nx_put, nx_mark]; omega)) _) ⟨_, v', by simp (disch := first | omega | (simp only [List.length_cons, List.length_nil, true_and, and_true, nx_push, nx_put, nx_mark]; done) | (simp only [List.length_cons, List.length_nil, true_and, and_true, nx_push, nx_put, nx_mark]; omega)) only [go_sem, ↓reduceIte, Nat.reduceAdd, Nat.reduceMul, Nat.reduceSub, Int.reduceToNat, UInt8.reduceToNat, Nat.reduceLeDiff, Nat.reduceEqDiff, Nat.sub_zero, Int.add_zero, Int.zero_add, Nat.add_zero, Nat.zero_add, Nat.zero_mul], .inr rfl, (O2.mark (l := H.marks)).put (by omega)⟩
theorem Len_run {id : Nat} {s : List UInt8} (hB : BO id s H) (h : K (.i .i64 s.length) H) : @R S (.f n_strings_Builder_Len) [.p (some (id, 0))] H ⟨K⟩ := by
  obtain ⟨a, v, hg, ha, hv⟩ := hB
  have l1 := hv.len
  refine run_fn2 rfl rfl ?_
  unfold bd_strings_Builder_Len
  simp (disch := first | omega | (simp only [List.length_cons, List.length_nil, true_and, and_true, nx_push, nx_put, nx_mark]; done) | (simp only [List.length_cons, List.length_nil, true_and, and_true, nx_push, nx_put, nx_mark]; omega)) only [go_sem, ↓reduceIte, Nat.reduceAdd, Nat.reduceMul, Nat.reduceSub, Int.reduceToNat, UInt8.reduceToNat, Nat.reduceLeDiff, Nat.reduceEqDiff, Nat.sub_zero, Int.add_zero, Int.zero_add, Nat.add_zero, Nat.zero_add, Nat.zero_mul, hg, l1]
  exact h
def byC (s : List UInt8) : List AV := s.map fun c => (AV.i .u8 (c.toNat : Int))
/-- A Builder that is told. -/
def BS (id : Nat) (s : List UInt8) (H : Mem) : Prop := ∃ a v, H.get id = .mem [.p a, v] 0 ty_strings_Builder true 0 ∧ ((v = .nsl ∧ s = []) ∨ ∃ bid, v = .sl bid 0 s.length none ∧ ((∃ frz, H.get bid = .mem (byC s) 1 ty_uint8 true frz) ∨ H.get bid = .froz (byC s) ty_uint8) ∧ id < bid ∧ s ≠ [])
theorem BO.told {id : Nat} {s : List UInt8} (h : BO id s H) (hs : s ≠ []) : BS id s H := by
  obtain ⟨a, v, hg, ha, hv⟩ := h
  rcases hv with ⟨e, _⟩ | ⟨bid, cells, e1, e2, e3, e4, e5⟩
  · exact absurd e hs
  · refine ⟨a, v, hg, .inr ⟨bid, e1, .inl ⟨0, ?_⟩, by omega, hs⟩⟩
    rw [e2]
    congr 1
    apply List.ext_getElem?
    intro j
    by_cases hj : j < s.length
    · have := e5.el j (s[j]) (by simp [hj])
      simp only [Rb, Nat.mul_one, Nat.zero_add] at this
      have h4 := congrArg (fun l => l[0]?) this
      simp only [List.getElem?_take_of_lt Nat.zero_lt_one, List.getElem?_drop, Nat.add_zero] at h4
      rw [h4]; simp [byC, hj]
    · rw [List.getElem?_eq_none (by omega), List.getElem?_eq_none (by simp [byC]; omega)]
theorem strL_by : ∀ s : List UInt8, strL (byC s) = some s
  | [] => rfl
  | c :: r => by
    have := strL_by r
    simp only [byC, List.map_cons, strL] at this ⊢
    have hc := c.toNat_lt
    rw [if_pos (by omega), this]; simp
theorem String_run {id : Nat} {s : List UInt8} (hB : BS id s H) (hw : Wf H) (hsl : s.length ≤ 140737488355328) (h : ∀ H', Ext (id + 1) H H' → BS id s H' → K (.s s) H') : @R S (.f n_strings_Builder_String) [.p (some (id, 0))] H ⟨K⟩ := by
  obtain ⟨a, v, hg, hv⟩ := hB
  have SX : S.X = Xr := rfl
  have e1 : extA n_internal_bytealg_IndexByteString n_internal_bytealg_CountString n_strings_Join (.f n_strings_Builder_String) [.p (some (id, 0))] H = none := rfl
  rcases hv with ⟨rfl, rfl⟩ | ⟨bid, rfl, hb, hlt, hs⟩
  · refine run_told (v := .s []) (H' := H) ?_ (h H (Ext.refl hw) ⟨a, .nsl, hg, .inl ⟨rfl, rfl⟩⟩)
    rw [SX]; unfold Xr; rw [e1]
    show (match H.get id with
        | .mem [.p _, .nsl] 0 t true 0 => bif Nat.beq t ty_strings_Builder then some ((.s [] : AV), H) else none
        | .mem [.p _, .sl bid 0 len none] 0 t true 0 => bif Nat.beq t ty_strings_Builder then match H.get bid with
          | .mem l 1 t2 true _ => bif Nat.beq t2 ty_uint8 && Nat.beq l.length len && !Nat.beq bid id && !Nat.beq len 0 && Nat.ble len 140737488355328 then match strL l with
            | some x => some (.s x, H.put bid (.froz l t2))
            | none => none
            else none
          | .froz l t2 => bif Nat.beq t2 ty_uint8 && Nat.beq l.length len && !Nat.beq bid id && !Nat.beq len 0 && Nat.ble len 140737488355328 then match strL l with
            | some x => some (.s x, H.put bid (.froz l t2))
            | none => none
            else none
          | _ => none
          else none
        | _ => none) = _
    rw [hg]; rfl
  · have hbl : bid < H.next := by rcases hb with ⟨frz, hb⟩ | hb <;> exact hw.lt hb (by simp)
    have hne : bid ≠ id := by omega
    refine run_told (v := .s s) (H' := H.put bid (.froz (byC s) ty_uint8)) ?_ (h _ ((Ext.refl hw).put (by omega) hbl _) ⟨a, .sl bid 0 s.length none, by simp (disch := first | omega | (simp only [List.length_cons, List.length_nil, true_and, and_true, nx_push, nx_put, nx_mark]; done) | (simp only [List.length_cons, List.length_nil, true_and, and_true, nx_push, nx_put, nx_mark]; omega)) only [go_sem, ↓reduceIte, Nat.reduceAdd, Nat.reduceMul, Nat.reduceSub, Int.reduceToNat, UInt8.reduceToNat, Nat.reduceLeDiff, Nat.reduceEqDiff, Nat.sub_zero, Int.add_zero, Int.zero_add, Nat.add_zero, Nat.zero_add, Nat.zero_mul, hg], .inr ⟨bid, rfl, .inr (by simp (disch := first | omega | (simp only [List.length_cons, List.length_nil, true_and, and_true, nx_push, nx_put, nx_mark]; done) | (simp only [List.length_cons, List.length_nil, true_and, and_true, nx_push, nx_put, nx_mark]; omega)) only [go_sem, ↓reduceIte, Nat.reduceAdd, Nat.reduceMul, Nat.reduceSub, Int.reduceToNat, UInt8.reduceToNat, Nat.reduceLeDiff, Nat.reduceEqDiff, Nat.sub_zero, Int.add_zero, Int.zero_add, Nat.add_zero, Nat.zero_add, Nat.zero_mul]), hlt, hs⟩⟩)
    rw [SX]; unfold Xr; rw [e1]
    have hlen : (byC s).length = s.length := by simp [byC]
    have b1 : Nat.beq (byC s).length s.length = true := by rw [hlen]; exact Nat.beq_refl _
    have b2 : Nat.beq bid id = false := by rw [beqN]; simp [hne]
    have b3 : Nat.beq s.length 0 = false := by
      rw [beqN]
      have : s.length ≠ 0 := fun e => hs (List.eq_nil_of_length_eq_zero e)
      simp [this]
    have b4 : Nat.beq ty_uint8 ty_uint8 = true := rfl
    have b5 : Nat.beq ty_strings_Builder ty_strings_Builder = true := rfl
    have b6 : Nat.ble s.length 140737488355328 = true := by rw [Nat.ble_eq]; exact hsl
    have st := strL_by s
    rcases hb with ⟨frz, hb⟩ | hb
    all_goals
      show (match H.get id with
        | .mem [.p _, .nsl] 0 t true 0 => bif Nat.beq t ty_strings_Builder then some ((.s [] : AV), H) else none
        | .mem [.p _, .sl bid 0 len none] 0 t true 0 => bif Nat.beq t ty_strings_Builder then match H.get bid with
          | .mem l 1 t2 true _ => bif Nat.beq t2 ty_uint8 && Nat.beq l.length len && !Nat.beq bid id && !Nat.beq len 0 && Nat.ble len 140737488355328 then match strL l with
            | some x => some (.s x, H.put bid (.froz l t2))
            | none => none
            else none
          | .froz l t2 => bif Nat.beq t2 ty_uint8 && Nat.beq l.length len && !Nat.beq bid id && !Nat.beq len 0 && Nat.ble len 140737488355328 then match strL l with
            | some x => some (.s x, H.put bid (.froz l t2))
            | none => none
            else none
          | _ => none
          else none
        | _ => none) = _
      rw [hg]
      simp only [hb, b1, b2, b3, b4, b5, b6, st]
      rfl
theorem BO.grow {id m : Nat} {s : List UInt8} {H' : Mem} (h : BO id s H) (w : Wf H) (k : Ext m H H') (hk : H.next ≤ m) : BO id s H' := by
  obtain ⟨a, v, hg, ha, hv⟩ := h
  have hid := w.lt hg (by simp)
  exact ⟨a, v, k.of hg (by omega), ha, hv.grow Rb_mono w k hk⟩
def textL : List FactT → List UInt8 → Option (List UInt8)
  | [], acc => some acc
  | x :: r, acc => if 200000 < acc.length + ((toldF x).length + 1) then none else textL r (acc ++ (toldF x ++ [10]))
def toldOkH (H : Mem) (x : FactT) : Prop := okN H x.N ∧ (toldF x).length ≤ 1000000 ∧ x.L.length ≤ 1000000
def toldOk (x : FactT) : Prop := (0 ≤ x.N ∧ x.N < 100) ∧ (toldF x).length ≤ 1000000 ∧ x.L.length ≤ 1000000
theorem toldOk.h {H : Mem} {x : FactT} (h : toldOk x) : toldOkH H x := ⟨⟨h.1.1, .inl h.1.2⟩, h.2⟩
theorem Text_loop {id : Nat} {v : AV} {l : List FactT} {H0 : Mem} {Q : Ex → Tr → Mem → Prop} (hv : ∀ H', Ext id H0 H' → SlR 7 Rfact H'.get v l) (hn : l.length ≤ 1000000) (hok : ∀ H', Ext id H0 H' → ∀ x ∈ l, toldOkH H' x) : ∀ (r : List FactT) (i : Nat) (f : Nat → AV) (H : Mem) (acc : List UInt8), l.drop i = r → i + r.length = l.length → Ext id H0 H → BO id acc H → acc.length ≤ 200000 → f 4 = .p (some (id, 0)) → f 10 = v → f 11 = .i .i64 l.length → f 12 = .i .i64 i →
    (∀ f' H', textL r acc = none → f' 2 = .s [] → f' 3 = .b false → Ext id H0 H' → Q .rt (trO 38 f') H') → (∀ s f' H', textL r acc = some s → (r = [] → H' = H) → f' 0 = f 0 → f' 4 = .p (some (id, 0)) → BO id s H' → s.length ≤ 200000 → Ext id H0 H' → Q (.ex 0) (trO 38 f') H') → @W S false (.loop lp_role_Text_0) (trO 38 f) H ⟨Q⟩ := by
  intro r
  induction r with
  | nil =>
    intro i f H acc h1 h3 hx hB hs f4 f10 f11 f12 k1 k2
    simp at h3
    rw [w_loop]
    unfold lp_role_Text_0
    simp (disch := first | omega | (simp only [List.length_cons, List.length_nil, true_and, and_true, nx_push, nx_put, nx_mark]; done) | (simp only [List.length_cons, List.length_nil, true_and, and_true, nx_push, nx_put, nx_mark]; omega)) only [go_sem, ↓reduceIte, Nat.reduceAdd, Nat.reduceMul, Nat.reduceSub, Int.reduceToNat, UInt8.reduceToNat, Nat.reduceLeDiff, Nat.reduceEqDiff, Nat.sub_zero, Int.add_zero, Int.zero_add, Nat.add_zero, Nat.zero_add, Nat.zero_mul, f4, f10, f11, f12]
    exact atQ 38 rfl (k2 acc _ H rfl (fun _ => rfl) rfl rfl hB hs hx)
  | cons x r ih =>
    intro i f H acc h1 h3 hE hB hs f4 f10 f11 f12 k1 k2
    simp at h3
    have hx : l[i]? = some x := by rw [← List.head?_drop, h1]; rfl
    have hr1 : l.drop (i + 1) = r := by rw [← List.drop_drop, h1]; rfl
    obtain ⟨okn, okl, okL⟩ := hok H hE x (List.mem_of_getElem? hx)
    obtain ⟨jd, p, c, y1, y2, y3, y4, y5, y6⟩ := (hv H hE).at_ hx
    obtain ⟨g, rfl, gr⟩ := y2
    have hjd := hE.wf jd y6
    have g1 := gr.one
    have hidn : id < H.next := by obtain ⟨a, u, hg, _⟩ := hB; exact hE.wf.lt hg (by simp)
    rw [w_loop]
    unfold lp_role_Text_0
    simp only [factC] at y4
    simp (disch := first | omega | (simp only [List.length_cons, List.length_nil, true_and, and_true, nx_push, nx_put, nx_mark]; done) | (simp only [List.length_cons, List.length_nil, true_and, and_true, nx_push, nx_put, nx_mark]; omega)) only [go_sem, ↓reduceIte, Nat.reduceAdd, Nat.reduceMul, Nat.reduceSub, Int.reduceToNat, UInt8.reduceToNat, Nat.reduceLeDiff, Nat.reduceEqDiff, Nat.sub_zero, Int.add_zero, Int.zero_add, Nat.add_zero, Nat.zero_add, Nat.zero_mul, f4, f10, f11, f12, y1, y4, g1]
    have hE1 : ∀ o1 o2, Ext H.next H ((H.push o1).put H.next o2) := fun _ _ => ((Ext.refl hE.wf).push _ (Nat.le_refl _)).put (Nat.le_refl _) (by first | omega | (simp only [nx_push, nx_put, nx_mark]; done) | (simp only [nx_push, nx_put, nx_mark]; omega)) _
    refine told_run (x := x) ⟨g, rfl, gr.mono Rs_mono (le_up (hE1 _ _) hE.wf (Nat.le_refl _))⟩ (hE1 _ _).wf (okn.ext hE.wf (hE1 _ _) (Nat.le_refl _)) (by omega) okL (fun H2 x2 => ?_)
    have hE2 : Ext H.next H H2 := (hE1 _ _).trans x2 (by simp only [nx_push, nx_put]; omega)
    have n2 := hE2.next
    have B2 := hB.grow hE.wf hE2 (Nat.le_refl _)
    simp (disch := first | omega | (simp only [List.length_cons, List.length_nil, true_and, and_true, nx_push, nx_put, nx_mark]; done) | (simp only [List.length_cons, List.length_nil, true_and, and_true, nx_push, nx_put, nx_mark]; omega)) only [go_sem, ↓reduceIte, Nat.reduceAdd, Nat.reduceMul, Nat.reduceSub, Int.reduceToNat, UInt8.reduceToNat, Nat.reduceLeDiff, Nat.reduceEqDiff, Nat.sub_zero, Int.add_zero, Int.zero_add, Nat.add_zero, Nat.zero_add, Nat.zero_mul]
    refine Write_run B2 hE2.wf (by simp; omega) (fun H3 x3 B3 => ?_)
    have hE3 : Ext id H0 H3 := (hE.trans hE2 (by omega)).trans x3 (Nat.le_refl _)
    simp (disch := first | omega | (simp only [List.length_cons, List.length_nil, true_and, and_true, nx_push, nx_put, nx_mark]; done) | (simp only [List.length_cons, List.length_nil, true_and, and_true, nx_push, nx_put, nx_mark]; omega)) only [go_sem, ↓reduceIte, Nat.reduceAdd, Nat.reduceMul, Nat.reduceSub, Int.reduceToNat, UInt8.reduceToNat, Nat.reduceLeDiff, Nat.reduceEqDiff, Nat.sub_zero, Int.add_zero, Int.zero_add, Nat.add_zero, Nat.zero_add, Nat.zero_mul]
    refine Len_run B3 ?_
    have hlen : ((acc ++ (toldF x ++ [10])).length : Int) = (acc.length : Int) + ((toldF x).length + 1) := by simp
    by_cases hb : 200000 < acc.length + ((toldF x).length + 1)
    · simp (disch := first | omega | (simp only [List.length_cons, List.length_nil, true_and, and_true, nx_push, nx_put, nx_mark]; done) | (simp only [List.length_cons, List.length_nil, true_and, and_true, nx_push, nx_put, nx_mark]; omega)) only [go_sem, ↓reduceIte, Nat.reduceAdd, Nat.reduceMul, Nat.reduceSub, Int.reduceToNat, UInt8.reduceToNat, Nat.reduceLeDiff, Nat.reduceEqDiff, Nat.sub_zero, Int.add_zero, Int.zero_add, Nat.add_zero, Nat.zero_add, Nat.zero_mul, hlen]
      exact atQ 38 rfl (k1 _ H3 (by rw [textL, if_pos hb]) rfl rfl hE3)
    · simp (disch := first | omega | (simp only [List.length_cons, List.length_nil, true_and, and_true, nx_push, nx_put, nx_mark]; done) | (simp only [List.length_cons, List.length_nil, true_and, and_true, nx_push, nx_put, nx_mark]; omega)) only [go_sem, ↓reduceIte, Nat.reduceAdd, Nat.reduceMul, Nat.reduceSub, Int.reduceToNat, UInt8.reduceToNat, Nat.reduceLeDiff, Nat.reduceEqDiff, Nat.sub_zero, Int.add_zero, Int.zero_add, Nat.add_zero, Nat.zero_add, Nat.zero_mul, hlen]
      have e : textL (x :: r) acc = textL r (acc ++ (toldF x ++ [10])) := by rw [textL, if_neg hb]
      refine atW 38 rfl (ih (i + 1) _ H3 _ hr1 (by omega) hE3 B3 (by simp; omega) rfl rfl rfl rfl (fun f' H' a => k1 f' H' (e.trans a)) (fun s f' H' a _ b => k2 s f' H' (e.trans a) (fun e => nomatch e) b))
theorem textL_ne : ∀ (r : List FactT) (acc s : List UInt8), textL r acc = some s → acc ≠ [] ∨ r ≠ [] → s ≠ []
  | [], acc, s, h, hn => by simp only [textL, Option.some.injEq] at h; subst h; rcases hn with h | h; exact h; exact absurd rfl h
  | x :: r, acc, s, h, _ => by
    rw [textL] at h
    split at h
    · cases h
    · exact textL_ne r _ s h (.inl (by simp))
theorem putN_L (i n : Int) (w : List UInt8) (x : FactT) : (putN i n w x).L.length ≤ x.L.length + 1 := by
  unfold putN; repeat' split
  all_goals simp
theorem fillF_L {F : Form} : ∀ (ws : List WordT) (i : Nat) (x y : FactT), fillF F i ws x = .ok y → y.L.length ≤ x.L.length + ws.length
  | [], _, x, y, h => by simp only [fillF, Except.ok.injEq] at h; subst h; simp
  | w :: r, i, x, y, h => by
    rw [fillF] at h
    split at h
    · split at h
      · have := fillF_L r _ _ y h; simp at this ⊢; omega
      · cases h
    · split at h
      · have := fillF_L r _ _ y h
        have := putN_L i F.names w.1 x
        simp; omega
      · cases h
theorem factF_L (l : LineT) : (factF l).1.L.length ≤ l.2.length := by
  obtain ⟨a, ws⟩ := l
  cases ws with
  | nil => simp [factF, fact0]
  | cons w r =>
    simp only [factF]
    split
    · simp [fact0]
    · split
      · simp [fact0]
      · split
        · simp [fact0]
        · rename_i h
          have := fillF_L _ _ _ _ h
          simp at this ⊢; omega
theorem goF_ok : ∀ (r : List LineT) (i : Nat) (acc : List FactT), (∀ l ∈ r, lineOk l) → (∀ x ∈ acc, x.L.length ≤ 1000000) → (∀ x ∈ (goF i r acc).1, x.L.length ≤ 1000000) ∧ (goF i r acc).1.length ≤ acc.length + r.length
  | [], _, acc, _, h => ⟨h, by simp [goF]⟩
  | l :: r, i, acc, hl, h => by
    rw [goF]
    split
    · simp
    · split
      · have := goF_ok r (i + 1) (acc ++ [(factF l).1]) (fun y hy => hl y (by simp [hy])) (fun x hx => by
          rcases List.mem_append.1 hx with hx | hx
          · exact h x hx
          · rw [List.mem_singleton.1 hx]
            have := factF_L l
            have := (hl l (by simp)).1
            omega)
        refine ⟨this.1, by have := this.2; simp at this ⊢; omega⟩
      · simp
theorem parse_ok (s : List UInt8) : (∀ x ∈ (parseF s).1, x.L.length ≤ 1000000) ∧ (parseF s).1.length ≤ 1000000 := by
  unfold parseF
  have hl := linesOf_ok s
  split
  · have := goF_ok (linesOf s).1 0 [] hl.1 (fun _ h => by simp at h)
    exact ⟨this.1, by have := this.2; simp at this; omega⟩
  · simp
theorem BS.grow {id m : Nat} {s : List UInt8} {H' : Mem} (h : BS id s H) (w : Wf H) (k : Ext m H H') (hk : H.next ≤ m) : BS id s H' := by
  obtain ⟨a, v, hg, hv⟩ := h
  have hid := w.lt hg (by simp)
  refine ⟨a, v, k.of hg (by omega), ?_⟩
  rcases hv with hv | ⟨bid, e1, e2, e3⟩
  · exact .inl hv
  · refine .inr ⟨bid, e1, ?_, e3⟩
    rcases e2 with ⟨frz, e2⟩ | e2
    · exact .inl ⟨frz, k.of e2 (by have := w.lt e2 (by simp); omega)⟩
    · exact .inr (k.of e2 (by have := w.lt e2 (by simp); omega))
def textF (l : List FactT) : List UInt8 × Bool := match textL l [] with
  | none => ([], false)
  | some s => if (parseF s).2.2 = 0 ∧ eqFs (parseF s).1 l = true then (s, true) else ([], false)
theorem Text_runH {v : AV} {l : List FactT} (hv : SlR 7 Rfact H.get v l) (hw : Wf H) (hn : l.length ≤ 1000000) (hok : ∀ x ∈ l, toldOkH H x) (h : ∀ H', Ext H.next H H' → K (.tup [.s (textF l).1, .b (textF l).2]) H') : @R S (.f n_role_Text) [v] H ⟨K⟩ := by
  refine run_fn2 rfl rfl ?_
  unfold bd_role_Text
  have l1 := hv.len
  have hE0 : ∀ o, Ext H.next (H.mark []) ((H.mark []).push o) := fun _ => (Ext.refl (H := H.mark []) hw).push _ (Nat.le_refl _)
  simp (disch := first | omega | (simp only [List.length_cons, List.length_nil, true_and, and_true, nx_push, nx_put, nx_mark]; done) | (simp only [List.length_cons, List.length_nil, true_and, and_true, nx_push, nx_put, nx_mark]; omega)) only [go_sem, ↓reduceIte, Nat.reduceAdd, Nat.reduceMul, Nat.reduceSub, Int.reduceToNat, UInt8.reduceToNat, Nat.reduceLeDiff, Nat.reduceEqDiff, Nat.sub_zero, Int.add_zero, Int.zero_add, Nat.add_zero, Nat.zero_add, Nat.zero_mul, l1]
  refine atW 38 rfl (Text_loop (id := H.next) (v := v) (l := l) (H0 := (H.mark []).push (AO.mem [AV.p none, AV.nsl] 0 ty_strings_Builder true 0)) (fun H' x => hv.mono Rfact_mono (le_up (H := H.mark []) ((hE0 _).trans x (Nat.le_refl _)) hw (Nat.le_refl _))) hn (fun H' x y hy => ⟨okN.ext (H := H.mark []) (hok y hy).1 hw ((hE0 _).trans x (Nat.le_refl _)) (Nat.le_refl _), (hok y hy).2⟩) l 0 _ _ [] rfl (by simp) (Ext.refl (hE0 _).wf) ⟨none, .nsl, by simp (disch := first | omega | (simp only [List.length_cons, List.length_nil, true_and, and_true, nx_push, nx_put, nx_mark]; done) | (simp only [List.length_cons, List.length_nil, true_and, and_true, nx_push, nx_put, nx_mark]; omega)) only [go_sem, ↓reduceIte, Nat.reduceAdd, Nat.reduceMul, Nat.reduceSub, Int.reduceToNat, UInt8.reduceToNat, Nat.reduceLeDiff, Nat.reduceEqDiff, Nat.sub_zero, Int.add_zero, Int.zero_add, Nat.add_zero, Nat.zero_add, Nat.zero_mul], .inl rfl, SlO.nil⟩ (by simp) rfl rfl rfl rfl (fun f' H' a b2 b3 c => ?_) (fun s f' H' a hnil f0 b hB hs c => ?_))
  · have e : textF l = ([], false) := by simp only [textF, a]
    rw [e] at h
    have hE := (hE0 _).trans c (Nat.le_refl _)
    have hm : H'.marks = [] := hE.marks
    simp (disch := first | omega | (simp only [List.length_cons, List.length_nil, true_and, and_true, nx_push, nx_put, nx_mark]; done) | (simp only [List.length_cons, List.length_nil, true_and, and_true, nx_push, nx_put, nx_mark]; omega)) only [go_sem, ↓reduceIte, Nat.reduceAdd, Nat.reduceMul, Nat.reduceSub, Int.reduceToNat, UInt8.reduceToNat, Nat.reduceLeDiff, Nat.reduceEqDiff, Nat.sub_zero, Int.add_zero, Int.zero_add, Nat.add_zero, Nat.zero_add, Nat.zero_mul, b2, b3, hm]
    exact h _ (Ext.mark hE)
  · have hE := (hE0 _).trans c (Nat.le_refl _)
    have hbs : BS H.next s H' := by
      by_cases hl : l = []
      · subst hl
        simp only [textL, Option.some.injEq] at a
        subst a
        rw [hnil rfl]
        exact ⟨none, .nsl, by simp (disch := first | omega | (simp only [List.length_cons, List.length_nil, true_and, and_true, nx_push, nx_put, nx_mark]; done) | (simp only [List.length_cons, List.length_nil, true_and, and_true, nx_push, nx_put, nx_mark]; omega)) only [go_sem, ↓reduceIte, Nat.reduceAdd, Nat.reduceMul, Nat.reduceSub, Int.reduceToNat, UInt8.reduceToNat, Nat.reduceLeDiff, Nat.reduceEqDiff, Nat.sub_zero, Int.add_zero, Int.zero_add, Nat.add_zero, Nat.zero_add, Nat.zero_mul], .inl ⟨rfl, rfl⟩⟩
      · exact hB.told (textL_ne l [] s a (.inr hl))
    have f0' : f' 0 = v := f0
    simp (disch := first | omega | (simp only [List.length_cons, List.length_nil, true_and, and_true, nx_push, nx_put, nx_mark]; done) | (simp only [List.length_cons, List.length_nil, true_and, and_true, nx_push, nx_put, nx_mark]; omega)) only [go_sem, ↓reduceIte, Nat.reduceAdd, Nat.reduceMul, Nat.reduceSub, Int.reduceToNat, UInt8.reduceToNat, Nat.reduceLeDiff, Nat.reduceEqDiff, Nat.sub_zero, Int.add_zero, Int.zero_add, Nat.add_zero, Nat.zero_add, Nat.zero_mul, b]
    refine String_run hbs hE.wf (by omega) (fun H1 x1 b1 => ?_)
    have hE1 := hE.trans x1 (by omega)
    have n1 := hE1.next
    simp only [nx_mark] at n1
    simp (disch := first | omega | (simp only [List.length_cons, List.length_nil, true_and, and_true, nx_push, nx_put, nx_mark]; done) | (simp only [List.length_cons, List.length_nil, true_and, and_true, nx_push, nx_put, nx_mark]; omega)) only [go_sem, ↓reduceIte, Nat.reduceAdd, Nat.reduceMul, Nat.reduceSub, Int.reduceToNat, UInt8.reduceToNat, Nat.reduceLeDiff, Nat.reduceEqDiff, Nat.sub_zero, Int.add_zero, Int.zero_add, Nat.add_zero, Nat.zero_add, Nat.zero_mul]
    refine Parse_run (by omega) hE1.wf (fun u H2 x2 hu => ?_)
    have hE2 := hE1.trans x2 n1
    have u1 := hu.one
    have hid1 : H.next < H1.next := by obtain ⟨a, u, hg, _⟩ := b1; exact hE1.wf.lt hg (by simp)
    have b2 := b1.grow hE1.wf x2 (Nat.le_refl _)
    have hm2 : H2.marks = [] := hE2.marks
    by_cases he : (parseF s).2.2 = 0
    · have pk := parse_ok s
      simp (disch := first | omega | (simp only [List.length_cons, List.length_nil, true_and, and_true, nx_push, nx_put, nx_mark]; done) | (simp only [List.length_cons, List.length_nil, true_and, and_true, nx_push, nx_put, nx_mark]; omega)) only [go_sem, ↓reduceIte, Nat.reduceAdd, Nat.reduceMul, Nat.reduceSub, Int.reduceToNat, UInt8.reduceToNat, Nat.reduceLeDiff, Nat.reduceEqDiff, Nat.sub_zero, Int.add_zero, Int.zero_add, Nat.add_zero, Nat.zero_add, Nat.zero_mul, u1, he, f0']
      refine EqF_run (hu.mono Rfact_mono sn_le) (hv.mono Rfact_mono (le_up (H := H.mark []) hE2 hw (Nat.le_refl _))) hE2.wf pk.2 pk.1 (fun H3 x3 => ?_)
      have hE3 := hE2.trans x3 (by have := x2.next; omega)
      have b3 := b2.grow hE2.wf x3 (Nat.le_refl _)
      have hm3 : H3.marks = [] := hE3.marks
      cases hq : eqFs (parseF s).1 l with
      | false =>
        have e : textF l = ([], false) := by simp only [textF, a]; rw [if_neg (by simp [hq])]
        rw [e] at h
        simp (disch := first | omega | (simp only [List.length_cons, List.length_nil, true_and, and_true, nx_push, nx_put, nx_mark]; done) | (simp only [List.length_cons, List.length_nil, true_and, and_true, nx_push, nx_put, nx_mark]; omega)) only [go_sem, ↓reduceIte, Nat.reduceAdd, Nat.reduceMul, Nat.reduceSub, Int.reduceToNat, UInt8.reduceToNat, Nat.reduceLeDiff, Nat.reduceEqDiff, Nat.sub_zero, Int.add_zero, Int.zero_add, Nat.add_zero, Nat.zero_add, Nat.zero_mul, hm3]
        exact h _ (Ext.mark hE3)
      | true =>
        have e : textF l = (s, true) := by simp only [textF, a]; rw [if_pos ⟨he, hq⟩]
        rw [e] at h
        simp (disch := first | omega | (simp only [List.length_cons, List.length_nil, true_and, and_true, nx_push, nx_put, nx_mark]; done) | (simp only [List.length_cons, List.length_nil, true_and, and_true, nx_push, nx_put, nx_mark]; omega)) only [go_sem, ↓reduceIte, Nat.reduceAdd, Nat.reduceMul, Nat.reduceSub, Int.reduceToNat, UInt8.reduceToNat, Nat.reduceLeDiff, Nat.reduceEqDiff, Nat.sub_zero, Int.add_zero, Int.zero_add, Nat.add_zero, Nat.zero_add, Nat.zero_mul]
        refine String_run b3 hE3.wf (by omega) (fun H4 x4 b4 => ?_)
        have hE4 := hE3.trans x4 (by omega)
        have hm4 : H4.marks = [] := hE4.marks
        simp (disch := first | omega | (simp only [List.length_cons, List.length_nil, true_and, and_true, nx_push, nx_put, nx_mark]; done) | (simp only [List.length_cons, List.length_nil, true_and, and_true, nx_push, nx_put, nx_mark]; omega)) only [go_sem, ↓reduceIte, Nat.reduceAdd, Nat.reduceMul, Nat.reduceSub, Int.reduceToNat, UInt8.reduceToNat, Nat.reduceLeDiff, Nat.reduceEqDiff, Nat.sub_zero, Int.add_zero, Int.zero_add, Nat.add_zero, Nat.zero_add, Nat.zero_mul, hm4]
        exact h _ (Ext.mark hE4)
    · have e : textF l = ([], false) := by simp only [textF, a]; rw [if_neg (fun k => he k.1)]
      rw [e] at h
      simp (disch := first | omega | (simp only [List.length_cons, List.length_nil, true_and, and_true, nx_push, nx_put, nx_mark]; done) | (simp only [List.length_cons, List.length_nil, true_and, and_true, nx_push, nx_put, nx_mark]; omega)) only [go_sem, ↓reduceIte, Nat.reduceAdd, Nat.reduceMul, Nat.reduceSub, Int.reduceToNat, UInt8.reduceToNat, Nat.reduceLeDiff, Nat.reduceEqDiff, Nat.sub_zero, Int.add_zero, Int.zero_add, Nat.add_zero, Nat.zero_add, Nat.zero_mul, u1, he, hm2]
      exact h _ (Ext.mark hE2)
theorem Text_run {v : AV} {l : List FactT} (hv : SlR 7 Rfact H.get v l) (hw : Wf H) (hn : l.length ≤ 1000000) (hok : ∀ x ∈ l, toldOk x) (h : ∀ H', Ext H.next H H' → K (.tup [.s (textF l).1, .b (textF l).2]) H') : @R S (.f n_role_Text) [v] H ⟨K⟩ := Text_runH hv hw hn (fun x hx => (hok x hx).h) h
end Go.Fw.Ro
end
section
/- What the document fixes of role policies. -/
namespace Go.Fw.Ro
open Go Go.Fw Go.Fw.Sys
set_option maxRecDepth 100000
variable {H : Mem} {K : AV → Mem → Prop}
def awk : List UInt8 := [117, 115, 101, 114, 32, 97, 10, 115, 115, 100, 32, 120, 32, 50, 32, 114, 32, 115, 10, 115, 101, 115, 115, 105, 111, 110, 32, 115, 32, 97, 10, 103, 114, 97, 110, 116, 32, 114, 32, 100, 111, 32, 105, 116]
def awkL : List FactT := [⟨1, [97], [], [], 0, [], 0⟩, ⟨6, [120], [], [], 2, [[114], [115]], 7⟩, ⟨8, [115], [97], [], 0, [], 19⟩, ⟨5, [114], [100, 111], [105, 116], 0, [], 31⟩]
theorem awk_parse : parseF awk = (awkL, 0, 0) := by decide +kernel
theorem awk_text : textF awkL = (awk ++ [10], true) := by decide +kernel
theorem awk2 : parseF [117, 115, 101, 114, 32, 97, 32, 98] = ([], 0, 9) := by decide +kernel
theorem awk3 : parseF [114, 111, 108, 101, 32, 65] = ([], 5, 15) := by decide +kernel
theorem awake_run (hw : Wf H) (h : ∀ H', Ext H.next H H' → K (.b true) H') : @R S (.f n_entaillaw13_awake) [] H ⟨K⟩ := by
  refine run_fn2 rfl rfl ?_
  unfold bd_entaillaw13_awake
  have ea : ([117, 115, 101, 114, 32, 97, 10, 115, 115, 100, 32, 120, 32, 50, 32, 114, 32, 115, 10, 115, 101, 115, 115, 105, 111, 110, 32, 115, 32, 97, 10, 103, 114, 97, 110, 116, 32, 114, 32, 100, 111, 32, 105, 116] : List UInt8) = awk := rfl
  have eb : ([117, 115, 101, 114, 32, 97, 10, 115, 115, 100, 32, 120, 32, 50, 32, 114, 32, 115, 10, 115, 101, 115, 115, 105, 111, 110, 32, 115, 32, 97, 10, 103, 114, 97, 110, 116, 32, 114, 32, 100, 111, 32, 105, 116, 10] : List UInt8) = awk ++ [10] := rfl
  rw [ea, eb]
  simp (disch := first | omega | (simp only [List.length_cons, List.length_nil, true_and, and_true, nx_push, nx_put, nx_mark]; done) | (simp only [List.length_cons, List.length_nil, true_and, and_true, nx_push, nx_put, nx_mark]; omega)) only [go_sem, ↓reduceIte, Nat.reduceAdd, Nat.reduceMul, Nat.reduceSub, Int.reduceToNat, UInt8.reduceToNat, Nat.reduceLeDiff, Nat.reduceEqDiff, Nat.sub_zero, Int.add_zero, Int.zero_add, Nat.add_zero, Nat.zero_add, Nat.zero_mul]
  refine Parse_run (H := H.mark []) (by simp [awk]) hw (fun v H1 x1 hv => ?_)
  rw [awk_parse] at hv ⊢
  simp only at hv ⊢
  have v1 := hv.one
  have l1 := hv.len
  simp (disch := first | omega | (simp only [List.length_cons, List.length_nil, true_and, and_true, nx_push, nx_put, nx_mark]; done) | (simp only [List.length_cons, List.length_nil, true_and, and_true, nx_push, nx_put, nx_mark]; omega)) only [go_sem, ↓reduceIte, Nat.reduceAdd, Nat.reduceMul, Nat.reduceSub, Int.reduceToNat, UInt8.reduceToNat, Nat.reduceLeDiff, Nat.reduceEqDiff, Nat.sub_zero, Int.add_zero, Int.zero_add, Nat.add_zero, Nat.zero_add, Nat.zero_mul, v1]
  refine Text_run (hv.mono Rfact_mono sn_le) x1.wf (by simp [awkL]) (by decide +kernel : ∀ x ∈ awkL, ((0 ≤ x.N ∧ x.N < 100) ∧ (toldF x).length ≤ 1000000 ∧ x.L.length ≤ 1000000)) (fun H2 x2 => ?_)
  rw [awk_text]
  simp only
  simp (disch := first | omega | (simp only [List.length_cons, List.length_nil, true_and, and_true, nx_push, nx_put, nx_mark]; done) | (simp only [List.length_cons, List.length_nil, true_and, and_true, nx_push, nx_put, nx_mark]; omega)) only [go_sem, ↓reduceIte, Nat.reduceAdd, Nat.reduceMul, Nat.reduceSub, Int.reduceToNat, UInt8.reduceToNat, Nat.reduceLeDiff, Nat.reduceEqDiff, Nat.sub_zero, Int.add_zero, Int.zero_add, Nat.add_zero, Nat.zero_add, Nat.zero_mul]
  refine Parse_run (by simp) x2.wf (fun v3 H3 x3 hv3 => ?_)
  rw [awk2] at hv3 ⊢
  simp only at hv3 ⊢
  have v31 := hv3.one
  simp (disch := first | omega | (simp only [List.length_cons, List.length_nil, true_and, and_true, nx_push, nx_put, nx_mark]; done) | (simp only [List.length_cons, List.length_nil, true_and, and_true, nx_push, nx_put, nx_mark]; omega)) only [go_sem, ↓reduceIte, Nat.reduceAdd, Nat.reduceMul, Nat.reduceSub, Int.reduceToNat, UInt8.reduceToNat, Nat.reduceLeDiff, Nat.reduceEqDiff, Nat.sub_zero, Int.add_zero, Int.zero_add, Nat.add_zero, Nat.zero_add, Nat.zero_mul, v31]
  refine Parse_run (by simp) x3.wf (fun v4 H4 x4 hv4 => ?_)
  rw [awk3] at hv4 ⊢
  simp only at hv4 ⊢
  have v41 := hv4.one
  have hE := ((x1.trans x2 x1.next).trans x3 (Nat.le_trans x1.next x2.next)).trans x4 (Nat.le_trans x1.next (Nat.le_trans x2.next x3.next))
  have hE14 := (x2.trans x3 x2.next).trans x4 (Nat.le_trans x2.next x3.next)
  have R : SlR 7 Rfact H4.get v awkL := (hv.mono Rfact_mono sn_le).mono Rfact_mono (le_up hE14 x1.wf (Nat.le_refl _))
  have hm : H4.marks = [] := hE.marks
  obtain ⟨i1, p1, c1, y1, y2, y3, y4, y5, y6⟩ := R.at_ (j := 1) rfl
  obtain ⟨i3, p3, c3, z1, z2, z3, z4, z5, z6⟩ := R.at_ (j := 3) rfl
  obtain ⟨g, rfl, gr⟩ := y2
  obtain ⟨g', rfl, gr'⟩ := z2
  have lg := gr.len
  have y10 : ixVS 7 v (.i .i64 1) = some (.p (some (i1, p1))) := y1
  have z10 : ixVS 7 v (.i .i64 3) = some (.p (some (i3, p3))) := z1
  have k0 : ldO (H4.get i1) false 1 p1 = some (.i .i64 6) := y3 0 (by omega)
  have k4 : ldO (H4.get i1) false 1 (p1 + 4) = some (.i .i64 2) := y3 4 (by omega)
  have k5 : ldO (H4.get i1) false 1 (p1 + 5) = some g := y3 5 (by omega)
  have k6 : ldO (H4.get i1) false 1 (p1 + 6) = some (.i .i64 7) := y3 6 (by omega)
  have m3 : ldO (H4.get i3) false 1 (p3 + 3) = some (.s [105, 116]) := z3 3 (by omega)
  have l4 : lenVS v = some (.i .i64 4) := l1
  have l5 : lenVS g = some (.i .i64 2) := lg
  simp (disch := first | omega | (simp only [List.length_cons, List.length_nil, true_and, and_true, nx_push, nx_put, nx_mark]; done) | (simp only [List.length_cons, List.length_nil, true_and, and_true, nx_push, nx_put, nx_mark]; omega)) only [go_sem, ↓reduceIte, Nat.reduceAdd, Nat.reduceMul, Nat.reduceSub, Int.reduceToNat, UInt8.reduceToNat, Nat.reduceLeDiff, Nat.reduceEqDiff, Nat.sub_zero, Int.add_zero, Int.zero_add, Nat.add_zero, Nat.zero_add, Nat.zero_mul, v41, l4, l5, y10, z10, k0, k4, k5, k6, m3, hm]
  exact h _ (Ext.mark hE)
end Go.Fw.Ro
end
section
/- What is told of facts is read as the same: a plain law. -/
namespace Go.Fw.Ro
open Go Go.Fw
/-- A fact's words. -/
def tw (x : FactT) : List (List UInt8) := match formF (kwF x.kind) with
  | none => []
  | some F => kwF x.kind :: [x.A, x.B, x.C].take F.names.toNat ++ (if F.number = true then [Lib.decDigits x.N.toNat] else []) ++ x.L
theorem toldF_tw (x : FactT) : toldF x = joinF [32] (tw x) := by
  unfold toldF tw
  cases formF (kwF x.kind) <;> rfl
def at1 (x : FactT) (a : Int) : FactT := { x with at_ := a }
theorem tw_at (x : FactT) (a : Int) : tw (at1 x a) = tw x := rfl
theorem fill_at {F : Form} {a : Int} : ∀ (r r' : List (List UInt8 × Int)) (i : Nat) (x y : FactT), r'.map (·.1) = r.map (·.1) → fillF F i r x = .ok y → fillF F i r' (at1 x a) = .ok (at1 y a)
  | [], r', i, x, y, h, e => by
    cases r' with
    | nil => simp only [fillF, Except.ok.injEq] at e; subst e; rfl
    | cons => simp at h
  | w :: r, [], i, x, y, h, e => by simp at h
  | w :: r, w' :: r', i, x, y, h, e => by
    simp only [List.map_cons, List.cons.injEq] at h
    obtain ⟨h1, h2⟩ := h
    rw [fillF] at e ⊢
    rw [h1]
    split at e
    · rename_i c
      rw [if_pos c]
      split at e
      · exact fill_at r r' _ _ _ h2 e
      · cases e
    · rename_i c
      rw [if_neg c]
      split at e
      · rename_i c2
        rw [if_pos c2]
        have := fill_at (a := a) r r' _ _ _ h2 e
        rw [show putN i F.names w.1 (at1 x a) = at1 (putN i F.names w.1 x) a by unfold putN at1; split; rfl; split; rfl; split <;> rfl]
        exact this
      · cases e
theorem fact_at {a a' : Int} {ps ps' : List (List UInt8 × Int)} {x : FactT} (hp : ps'.map (·.1) = ps.map (·.1)) (h : factF (a, ps) = (x, 0, 0)) : factF (a', ps') = (at1 x a', 0, 0) := by
  cases ps with
  | nil => simp [factF] at h
  | cons w r =>
    cases ps' with
    | nil => simp at hp
    | cons w' r' =>
      simp only [List.map_cons, List.cons.injEq] at hp
      obtain ⟨h1, h2⟩ := hp
      have hl : r'.length = r.length := by have := congrArg List.length h2; simpa using this
      simp only [factF] at h ⊢
      rw [h1]
      split at h
      · simp at h
      · rename_i F hF
        simp only [hF, hl]
        split at h
        · simp at h
        · rename_i hc
          rw [if_neg hc]
          split at h
          · rename_i q e he
            simp only [Prod.mk.injEq] at h
            rcases fillF_err he with e9 | e9 <;> omega
          · rename_i y hy
            simp only [Prod.mk.injEq, and_true] at h
            subst h
            have := fill_at (a := a') r r' 0 _ _ h2 hy
            rw [show at1 (⟨F.kind, [], [], [], 0, [], a⟩ : FactT) a' = ⟨F.kind, [], [], [], 0, [], a'⟩ from rfl] at this
            rw [this]
theorem fill_rest {F : Form} : ∀ (r : List (List UInt8 × Int)) (i : Nat) (x y : FactT), F.names ≤ (i : Int) → (F.number = true → F.names < (i : Int)) → fillF F i r x = .ok y → y = { x with L := x.L ++ r.map (·.1) } ∧ ∀ w ∈ r.map (·.1), isName w = true
  | [], i, x, y, h, hn, e => by
    simp only [fillF, Except.ok.injEq] at e
    subst e
    exact ⟨by simp, by simp⟩
  | w :: r, i, x, y, h, hn, e => by
    rw [fillF] at e
    rw [if_neg (fun c => by have := hn c.1; omega)] at e
    split at e
    · rename_i c2
      have := fill_rest r (i + 1) _ y (by omega) (fun c => by have := hn c; omega) e
      obtain ⟨e1, e2⟩ := this
      rw [show putN i F.names w.1 x = { x with L := x.L ++ [w.1] } by unfold putN; rw [if_pos h]] at e1
      refine ⟨by rw [e1]; simp, fun u hu => ?_⟩
      rcases List.mem_cons.1 hu with rfl | hu
      · exact c2
      · exact e2 u hu
    · cases e
theorem isD_toNat {a : UInt8} (h : isD a = true) : 48 ≤ a.toNat ∧ a.toNat ≤ 57 := by simpa [isD] using h
theorem name_digs : ∀ l : List UInt8, l ≠ [] → l.length ≤ 30 → (∀ c ∈ l, isD c = true) → isName l = true
  | [], h, _, _ => absurd rfl h
  | c :: r, _, hl, hd => by
    have h1 := isD_toNat (hd c (by simp))
    have pl : ∀ u ∈ c :: r, isPlain u.toNat = true := fun u hu => by
      have := isD_toNat (hd u hu)
      simp [isPlain, isFirst]; omega
    simp only [isName, Bool.and_eq_true, decide_eq_true_eq, List.all_eq_true]
    refine ⟨⟨?_, hl⟩, pl⟩
    simp [isFirst]; omega
theorem numF_dec {w : List UInt8} {n : Int} (h : numF w = some n) : Lib.decDigits n.toNat = w ∧ isName w = true ∧ 0 ≤ n ∧ n < 100 := by
  match w, h with
  | [a], h =>
    simp only [numF] at h
    split at h
    · rename_i c
      have ha := isD_toNat c.1
      simp only [Option.some.injEq] at h
      subst h
      have e : (((a.toNat : Int) - 48).toNat) = a.toNat - 48 := by omega
      refine ⟨?_, name_digs _ (by simp) (by simp) (by simp [c.1]), by omega, by omega⟩
      rw [e, Lib.decDigits, dif_pos (by omega), show 48 + (a.toNat - 48) = a.toNat by omega, UInt8.ofNat_toNat]
    · cases h
  | [a, b], h =>
    simp only [numF] at h
    split at h
    · rename_i c
      have ha := isD_toNat c.1
      have hb := isD_toNat c.2.1
      have h48 := c.2.2
      simp only [Option.some.injEq] at h
      subst h
      have e : ((10 * ((a.toNat : Int) - 48) + ((b.toNat : Int) - 48)).toNat) = 10 * (a.toNat - 48) + (b.toNat - 48) := by omega
      refine ⟨?_, name_digs _ (by simp) (by simp) (by simp [c.1, c.2.1]), by omega, by omega⟩
      rw [e, Lib.decDigits, dif_neg (by omega), Lib.decDigits, dif_pos (by omega)]
      rw [show 48 + (10 * (a.toNat - 48) + (b.toNat - 48)) / 10 = a.toNat by omega, show 48 + (10 * (a.toNat - 48) + (b.toNat - 48)) % 10 = b.toNat by omega, UInt8.ofNat_toNat, UInt8.ofNat_toNat]
      rfl
    · cases h
  | [], h => simp [numF] at h
  | _ :: _ :: _ :: _, h => simp [numF] at h
theorem fill_one {F : Form} {w : List UInt8 × Int} {r : List (List UInt8 × Int)} {i : Nat} {x y : FactT} (hn : ¬(F.number = true ∧ (i : Int) = F.names)) (h : fillF F i (w :: r) x = .ok y) : isName w.1 = true ∧ fillF F (i + 1) r (putN i F.names w.1 x) = .ok y := by
  rw [fillF, if_neg hn] at h
  split at h
  · rename_i c; exact ⟨c, h⟩
  · cases h
theorem fill_num {F : Form} {w : List UInt8 × Int} {r : List (List UInt8 × Int)} {i : Nat} {x y : FactT} (hn : F.number = true ∧ (i : Int) = F.names) (h : fillF F i (w :: r) x = .ok y) : ∃ n, numF w.1 = some n ∧ fillF F (i + 1) r { x with N := n } = .ok y := by
  rw [fillF, if_pos hn] at h
  split at h
  · rename_i n c; exact ⟨n, c, h⟩
  · cases h
/-- A fact that a line tells: its words are the line's. -/
theorem fact_tw {a : Int} {ps : List (List UInt8 × Int)} {x : FactT} (h : factF (a, ps) = (x, 0, 0)) : tw x = ps.map (·.1) ∧ (∀ w ∈ tw x, isName w = true) ∧ (0 ≤ x.N ∧ x.N < 100) := by
  cases ps with
  | nil => simp [factF] at h
  | cons w r =>
    simp only [factF] at h
    split at h
    · simp at h
    · rename_i F hF
      split at h
      · simp at h
      · rename_i hc
        split at h
        · rename_i q e he
          simp only [Prod.mk.injEq] at h
          rcases fillF_err he with e9 | e9 <;> omega
        · rename_i y hy
          simp only [Prod.mk.injEq, and_true] at h
          subst h
          simp only [formF] at hF
          split at hF
          · rename_i hw
            injection hF with hF; subst hF
            obtain ⟨w1, rfl⟩ : ∃ w1, r = [w1] := by
              match r, hc with
              | [w1], _ => exact ⟨w1, rfl⟩
              | [], hc => simp at hc
              | _ :: _ :: _, hc => simp only [List.length_cons] at hc; omega
            obtain ⟨n1, hy⟩ := fill_one (by simp) hy
            obtain ⟨e, hr⟩ := fill_rest _ _ _ _ (by simp) (by simp) hy
            have ht : tw y = w.1 :: w1.1 :: [] := by rw [e, hw]; rfl
            refine ⟨ht, ?_, by rw [e]; exact ⟨Int.le_refl 0, by show (0 : Int) < 100; omega⟩⟩
            rw [ht, hw]; intro u hu
            simp only [List.mem_cons, List.not_mem_nil, or_false] at hu
            rcases hu with rfl | rfl <;> first | exact n1 | decide
          rename_i hne; clear hne
          split at hF
          · rename_i hw
            injection hF with hF; subst hF
            obtain ⟨w1, rfl⟩ : ∃ w1, r = [w1] := by
              match r, hc with
              | [w1], _ => exact ⟨w1, rfl⟩
              | [], hc => simp at hc
              | _ :: _ :: _, hc => simp only [List.length_cons] at hc; omega
            obtain ⟨n1, hy⟩ := fill_one (by simp) hy
            obtain ⟨e, hr⟩ := fill_rest _ _ _ _ (by simp) (by simp) hy
            have ht : tw y = w.1 :: w1.1 :: [] := by rw [e, hw]; rfl
            refine ⟨ht, ?_, by rw [e]; exact ⟨Int.le_refl 0, by show (0 : Int) < 100; omega⟩⟩
            rw [ht, hw]; intro u hu
            simp only [List.mem_cons, List.not_mem_nil, or_false] at hu
            rcases hu with rfl | rfl <;> first | exact n1 | decide
          rename_i hne; clear hne
          split at hF
          · rename_i hw
            injection hF with hF; subst hF
            obtain ⟨w1, w2, rfl⟩ : ∃ w1 w2, r = [w1, w2] := by
              match r, hc with
              | [w1, w2], _ => exact ⟨w1, w2, rfl⟩
              | [], hc => simp at hc
              | [_], hc => simp at hc
              | _ :: _ :: _ :: _, hc => simp only [List.length_cons] at hc; omega
            obtain ⟨n1, hy⟩ := fill_one (by simp) hy
            obtain ⟨n2, hy⟩ := fill_one (by simp) hy
            obtain ⟨e, hr⟩ := fill_rest _ _ _ _ (by simp) (by simp) hy
            have ht : tw y = w.1 :: w1.1 :: w2.1 :: [] := by rw [e, hw]; rfl
            refine ⟨ht, ?_, by rw [e]; exact ⟨Int.le_refl 0, by show (0 : Int) < 100; omega⟩⟩
            rw [ht, hw]; intro u hu
            simp only [List.mem_cons, List.not_mem_nil, or_false] at hu
            rcases hu with rfl | rfl | rfl <;> first | exact n1 | exact n2 | decide
          rename_i hne; clear hne
          split at hF
          · rename_i hw
            injection hF with hF; subst hF
            obtain ⟨w1, w2, rfl⟩ : ∃ w1 w2, r = [w1, w2] := by
              match r, hc with
              | [w1, w2], _ => exact ⟨w1, w2, rfl⟩
              | [], hc => simp at hc
              | [_], hc => simp at hc
              | _ :: _ :: _ :: _, hc => simp only [List.length_cons] at hc; omega
            obtain ⟨n1, hy⟩ := fill_one (by simp) hy
            obtain ⟨n2, hy⟩ := fill_one (by simp) hy
            obtain ⟨e, hr⟩ := fill_rest _ _ _ _ (by simp) (by simp) hy
            have ht : tw y = w.1 :: w1.1 :: w2.1 :: [] := by rw [e, hw]; rfl
            refine ⟨ht, ?_, by rw [e]; exact ⟨Int.le_refl 0, by show (0 : Int) < 100; omega⟩⟩
            rw [ht, hw]; intro u hu
            simp only [List.mem_cons, List.not_mem_nil, or_false] at hu
            rcases hu with rfl | rfl | rfl <;> first | exact n1 | exact n2 | decide
          rename_i hne; clear hne
          split at hF
          · rename_i hw
            injection hF with hF; subst hF
            obtain ⟨w1, w2, w3, rfl⟩ : ∃ w1 w2 w3, r = [w1, w2, w3] := by
              match r, hc with
              | [w1, w2, w3], _ => exact ⟨w1, w2, w3, rfl⟩
              | [], hc => simp at hc
              | [_], hc => simp at hc
              | [_, _], hc => simp at hc
              | _ :: _ :: _ :: _ :: _, hc => simp only [List.length_cons] at hc; omega
            obtain ⟨n1, hy⟩ := fill_one (by simp) hy
            obtain ⟨n2, hy⟩ := fill_one (by simp) hy
            obtain ⟨n3, hy⟩ := fill_one (by simp) hy
            obtain ⟨e, hr⟩ := fill_rest _ _ _ _ (by simp) (by simp) hy
            have ht : tw y = w.1 :: w1.1 :: w2.1 :: w3.1 :: [] := by rw [e, hw]; rfl
            refine ⟨ht, ?_, by rw [e]; exact ⟨Int.le_refl 0, by show (0 : Int) < 100; omega⟩⟩
            rw [ht, hw]; intro u hu
            simp only [List.mem_cons, List.not_mem_nil, or_false] at hu
            rcases hu with rfl | rfl | rfl | rfl <;> first | exact n1 | exact n2 | exact n3 | decide
          rename_i hne; clear hne
          split at hF
          · rename_i hw
            injection hF with hF; subst hF
            obtain ⟨w1, w2, r, rfl⟩ : ∃ w1 w2 r', r = w1 :: w2 :: r' := by
              match r, hc with
              | w1 :: w2 :: r', _ => exact ⟨w1, w2, r', rfl⟩
              | [_], hc => simp at hc
              | [], hc => simp at hc
            obtain ⟨n1, hy⟩ := fill_one (by simp) hy
            obtain ⟨n, n2, hy⟩ := fill_num (by simp) hy
            obtain ⟨n3, n4, n5⟩ := numF_dec n2
            obtain ⟨e, hr⟩ := fill_rest _ _ _ _ (by simp) (by simp) hy
            have ht : tw y = w.1 :: w1.1 :: w2.1 :: r.map (·.1) := by rw [e, hw]; simp only [tw, putN]; exact congrArg (fun z => [115, 115, 100] :: w1.1 :: z :: r.map (·.1)) n3
            refine ⟨ht, ?_, by rw [e]; exact n5⟩
            rw [ht, hw]; intro u hu
            simp only [List.mem_cons] at hu
            rcases hu with rfl | rfl | rfl | hu <;> first | exact n1 | exact n4 | exact hr u hu | decide
          rename_i hne; clear hne
          split at hF
          · rename_i hw
            injection hF with hF; subst hF
            obtain ⟨w1, w2, r, rfl⟩ : ∃ w1 w2 r', r = w1 :: w2 :: r' := by
              match r, hc with
              | w1 :: w2 :: r', _ => exact ⟨w1, w2, r', rfl⟩
              | [_], hc => simp at hc
              | [], hc => simp at hc
            obtain ⟨n1, hy⟩ := fill_one (by simp) hy
            obtain ⟨n, n2, hy⟩ := fill_num (by simp) hy
            obtain ⟨n3, n4, n5⟩ := numF_dec n2
            obtain ⟨e, hr⟩ := fill_rest _ _ _ _ (by simp) (by simp) hy
            have ht : tw y = w.1 :: w1.1 :: w2.1 :: r.map (·.1) := by rw [e, hw]; simp only [tw, putN]; exact congrArg (fun z => [100, 115, 100] :: w1.1 :: z :: r.map (·.1)) n3
            refine ⟨ht, ?_, by rw [e]; exact n5⟩
            rw [ht, hw]; intro u hu
            simp only [List.mem_cons] at hu
            rcases hu with rfl | rfl | rfl | hu <;> first | exact n1 | exact n4 | exact hr u hu | decide
          rename_i hne; clear hne
          split at hF
          · rename_i hw
            injection hF with hF; subst hF
            obtain ⟨w1, w2, r, rfl⟩ : ∃ w1 w2 r', r = w1 :: w2 :: r' := by
              match r, hc with
              | w1 :: w2 :: r', _ => exact ⟨w1, w2, r', rfl⟩
              | [], hc => simp at hc
              | [_], hc => simp at hc
            obtain ⟨n1, hy⟩ := fill_one (by simp) hy
            obtain ⟨n2, hy⟩ := fill_one (by simp) hy
            obtain ⟨e, hr⟩ := fill_rest _ _ _ _ (by simp) (by simp) hy
            have ht : tw y = w.1 :: w1.1 :: w2.1 :: r.map (·.1) := by rw [e, hw]; rfl
            refine ⟨ht, ?_, by rw [e]; exact ⟨Int.le_refl 0, by show (0 : Int) < 100; omega⟩⟩
            rw [ht, hw]; intro u hu
            simp only [List.mem_cons, List.not_mem_nil, or_false] at hu
            rcases hu with rfl | rfl | rfl | hu <;> first | exact n1 | exact n2 | exact hr u hu | decide
          rename_i hne; clear hne
          cases hF
/-! ### Words of a line that is told -/
theorem plain_ne {c : UInt8} (h : isPlain c.toNat = true) : c.toNat ≠ 32 ∧ c.toNat ≠ 9 ∧ c.toNat ≠ 10 ∧ c.toNat ≠ 13 ∧ c.toNat ≠ 35 ∧ badB c = false := by
  simp only [isPlain, isFirst, Bool.or_eq_true, Bool.and_eq_true, decide_eq_true_eq] at h
  refine ⟨by omega, by omega, by omega, by omega, by omega, ?_⟩
  simp only [badB, Bool.and_eq_false_iff, Bool.not_eq_false', decide_eq_true_eq, Bool.or_eq_false_iff, decide_eq_false_iff_not]
  right; omega
theorem name_parts {w : List UInt8} (h : isName w = true) : w ≠ [] ∧ ∀ c ∈ w, isPlain c.toNat = true := by
  unfold isName at h
  simp only [Bool.and_eq_true, decide_eq_true_eq, List.all_eq_true] at h
  refine ⟨fun e => ?_, h.2⟩
  subst e
  simp at h
theorem tk_plain : ∀ (w r : List UInt8), (∀ c ∈ w, isPlain c.toNat = true) → (r = [] ∨ ∃ t, r = 32 :: t) → tk (w ++ r) = w
  | [], r, _, hr => by
    rcases hr with rfl | ⟨t, rfl⟩
    · rfl
    · rfl
  | c :: w, r, hw, hr => by
    have h1 := plain_ne (hw c (by simp))
    have ih := tk_plain w r (fun u hu => hw u (by simp [hu])) hr
    unfold tk at ih ⊢
    rw [List.cons_append, List.takeWhile_cons, if_pos (by simp [h1.1, h1.2.1]), ih]
theorem words_join : ∀ (ws : List (List UInt8)) (n : Nat) (p : Int), (∀ w ∈ ws, isName w = true) → (joinF [32] ws).length ≤ n → (wordsF n (joinF [32] ws) p).map (·.1) = ws
  | [], n, p, _, _ => by cases n <;> rfl
  | [w], n, p, h, hn => by
    obtain ⟨h1, h2⟩ := name_parts (h w (by simp))
    cases w with
    | nil => exact absurd rfl h1
    | cons c r =>
      have hc := plain_ne (h2 c (by simp))
      have ht := tk_plain (c :: r) [] h2 (.inl rfl)
      rw [List.append_nil] at ht
      simp only [joinF, List.length_cons] at hn ⊢
      obtain ⟨n, rfl⟩ : ∃ m, n = m + 1 := ⟨n - 1, by omega⟩
      rw [wordsF, if_neg (by omega), if_neg (by omega), ht]
      simp only [List.map_cons, List.drop_length]
      cases n <;> rfl
  | w :: w2 :: ws, n, p, h, hn => by
    obtain ⟨h1, h2⟩ := name_parts (h w (by simp))
    have ih := words_join (w2 :: ws)
    cases w with
    | nil => exact absurd rfl h1
    | cons c r =>
      have hc := plain_ne (h2 c (by simp))
      have ht := tk_plain (c :: r) (32 :: joinF [32] (w2 :: ws)) h2 (.inr ⟨_, rfl⟩)
      have ej : joinF [32] ((c :: r) :: w2 :: ws) = c :: (r ++ 32 :: joinF [32] (w2 :: ws)) := by simp [joinF]
      rw [ej] at hn ⊢
      simp only [List.length_cons, List.length_append] at hn
      obtain ⟨n, rfl⟩ : ∃ m, n = m + 1 := ⟨n - 1, by omega⟩
      rw [List.cons_append] at ht
      rw [wordsF, if_neg (by omega), if_neg (by omega), ht]
      have ed : (c :: (r ++ 32 :: joinF [32] (w2 :: ws))).drop (c :: r).length = 32 :: joinF [32] (w2 :: ws) := by
        rw [← List.cons_append]; exact List.drop_left
      rw [ed]
      obtain ⟨n, rfl⟩ : ∃ m, n = m + 1 := ⟨n - 1, by omega⟩
      rw [wordsF, if_pos (.inl rfl)]
      simp only [List.map_cons]
      rw [ih n _ (fun u hu => h u (by simp only [List.mem_cons] at hu ⊢; exact .inr hu)) (by omega)]
def okB (l : List UInt8) : Prop := ∀ c ∈ l, c.toNat = 32 ∨ isPlain c.toNat = true
theorem join_okB : ∀ (ws : List (List UInt8)), (∀ w ∈ ws, isName w = true) → okB (joinF [32] ws)
  | [], _ => by intro c hc; simp [joinF] at hc
  | [w], h => fun c hc => .inr ((name_parts (h w (by simp))).2 c hc)
  | w :: w2 :: ws, h => fun c hc => by
    simp only [joinF, List.mem_append, List.mem_cons, List.not_mem_nil, or_false] at hc
    rcases hc with (hc | rfl) | hc
    · exact .inr ((name_parts (h w (by simp))).2 c hc)
    · exact .inl rfl
    · exact join_okB (w2 :: ws) (fun u hu => h u (by simp only [List.mem_cons] at hu ⊢; exact .inr hu)) c (by simpa [joinF] using hc)
theorem okB_ne {l : List UInt8} (h : okB l) : ∀ c ∈ l, c.toNat ≠ 10 ∧ c.toNat ≠ 13 ∧ badB c = false := fun c hc => by
  rcases h c hc with e | e
  · refine ⟨by omega, by omega, ?_⟩
    simp [badB, e]
  · have := plain_ne e
    exact ⟨this.2.2.1, this.2.2.2.1, this.2.2.2.2.2⟩
theorem badAt_ok : ∀ (l : List UInt8) (k : Nat), (∀ c ∈ l, badB c = false) → badAt l k = -1
  | [], _, _ => rfl
  | c :: l, k, h => by rw [badAt, if_neg (by rw [h c (by simp)]; simp)]; exact badAt_ok l _ (fun u hu => h u (by simp [hu]))
theorem trim_ok {l : List UInt8} (h : ∀ c ∈ l, c.toNat ≠ 13) : trimEnd l [13] = l := by
  unfold trimEnd
  split
  · rename_i e
    simp only [endsIn, Bool.and_eq_true, decide_eq_true_eq] at e
    have : (13 : UInt8) ∈ l := List.mem_of_mem_drop (by rw [e.2]; simp)
    exact absurd rfl (h 13 this)
  · rfl
theorem ix_line : ∀ (l r : List UInt8), (∀ c ∈ l, c.toNat ≠ 10) → ixOf (l ++ 10 :: r) 10 = l.length
  | [], r, _ => by rw [List.nil_append, ixOf_cons]; rfl
  | c :: l, r, h => by
    have ih := ix_line l r (fun u hu => h u (by simp [hu]))
    rw [List.cons_append, ixOf_cons, if_neg (h c (by simp)), ih, if_neg (by omega)]
    simp
/-- The text of facts. -/
def txF : List FactT → List UInt8
  | [] => []
  | x :: r => toldF x ++ 10 :: txF r
theorem lines_told : ∀ (xs : List FactT) (n : Nat) (p : Int) (acc : List LineT), (∀ x ∈ xs, tw x ≠ [] ∧ ∀ w ∈ tw x, isName w = true) → (txF xs).length ≤ n →
    ∃ ls, linesG (piecesF n (txF xs)) p acc = .ok (acc ++ ls) ∧ ls.map (fun l => l.2.map (·.1)) = xs.map tw
  | [], n, p, acc, _, _ => by
    refine ⟨[], ?_, rfl⟩
    have e : piecesF n (txF []) = [[]] := by cases n <;> rfl
    rw [e]; simp [linesG]; rfl
  | x :: xs, n, p, acc, h, hn => by
    obtain ⟨h1, h2⟩ := h x (by simp)
    have ok : okB (toldF x) := by rw [toldF_tw]; exact join_okB _ h2
    have ne := okB_ne ok
    have hi := ix_line (toldF x) (txF xs) (fun c hc => (ne c hc).1)
    simp only [txF, List.length_append, List.length_cons] at hn ⊢
    obtain ⟨n, rfl⟩ : ∃ m, n = m + 1 := ⟨n - 1, by omega⟩
    have ht : trimEnd (toldF x) [13] = toldF x := trim_ok fun c hc => (ne c hc).2.1
    have hb : badAt (toldF x) 0 = -1 := badAt_ok _ _ fun c hc => (ne c hc).2.2
    rw [piecesF, hi, if_neg (by omega)]
    simp only [Int.toNat_natCast]
    rw [List.take_left, show (toldF x).length + 1 = (toldF x ++ [10]).length by simp, show toldF x ++ 10 :: txF xs = (toldF x ++ [10]) ++ txF xs by simp, List.drop_left]
    rw [linesG, ht, hb, if_neg (by omega)]
    have hw := words_join (tw x) (toldF x).length p h2 (by rw [toldF_tw]; exact Nat.le_refl _)
    rw [← toldF_tw] at hw
    generalize wordsF (toldF x).length (toldF x) p = ws at hw
    cases ws with
    | nil => rw [← hw] at h1; exact absurd rfl h1
    | cons w ws =>
      obtain ⟨ls, e1, e2⟩ := lines_told xs n (p + ((toldF x).length : Int) + 1) (acc ++ [(w.2, w :: ws)]) (fun y hy => h y (by simp [hy])) (by omega)
      refine ⟨(w.2, w :: ws) :: ls, ?_, by simp only [List.map_cons, e2, ← hw]⟩
      simp only [more1]
      rw [e1]; simp
/-! ### How long what is told is -/
def wsum : List (List UInt8) → Nat
  | [] => 0
  | w :: r => w.length + 1 + wsum r
theorem tk_drop : ∀ l : List UInt8, l.drop (tk l).length = [] ∨ ∃ b r, l.drop (tk l).length = b :: r ∧ (b.toNat = 32 ∨ b.toNat = 9)
  | [] => .inl rfl
  | c :: l => by
    by_cases hc : c.toNat = 32 ∨ c.toNat = 9
    · right
      have : tk (c :: l) = [] := by
        unfold tk
        rw [List.takeWhile_cons, if_neg (by rcases hc with e | e <;> simp [e])]
      rw [this]
      exact ⟨c, l, rfl, hc⟩
    · have : tk (c :: l) = c :: tk l := by
        unfold tk
        rw [List.takeWhile_cons, if_pos (by simp; omega)]
      rw [this]
      exact tk_drop l
theorem words_sum : ∀ (n : Nat) (s : List UInt8) (p : Int), wsum ((wordsF n s p).map (·.1)) ≤ s.length + 1 ∧ ((s = [] ∨ ∃ b r, s = b :: r ∧ (b.toNat = 32 ∨ b.toNat = 9)) → wsum ((wordsF n s p).map (·.1)) ≤ s.length)
  | 0, s, p => by simp [wordsF, wsum]
  | n + 1, [], p => by simp [wordsF, wsum]
  | n + 1, c :: r, p => by
    rw [wordsF]
    split
    · have := (words_sum n r (p + 1)).1
      exact ⟨by simp only [List.length_cons]; omega, fun _ => by simp only [List.length_cons]; omega⟩
    · rename_i hb
      split
      · simp [wsum]
      · have h2 := (words_sum n ((c :: r).drop (tk (c :: r)).length) (p + (tk (c :: r)).length)).2 (tk_drop (c :: r))
        have hl : (tk (c :: r)).length ≤ (c :: r).length := by rw [← tk_take]; exact List.length_take_le' _ _
        simp only [List.length_drop] at h2
        refine ⟨?_, ?_⟩
        · simp only [List.map_cons, wsum]
          omega
        · rintro (e | ⟨b, t, e, hb2⟩)
          · cases e
          · injection e with e1 e2; subst e1; exact absurd hb2 hb
def lsum : List LineT → Nat
  | [] => 0
  | l :: r => wsum (l.2.map (·.1)) + lsum r
theorem lsum_app : ∀ (a b : List LineT), lsum (a ++ b) = lsum a + lsum b
  | [], b => by simp [lsum]
  | x :: a, b => by simp only [List.cons_append, lsum, lsum_app a b]; omega
theorem more1_sum (acc : List LineT) (ws : List (List UInt8 × Int)) : lsum (more1 acc ws) = lsum acc + wsum (ws.map (·.1)) := by
  cases ws with
  | nil => simp [more1, wsum]
  | cons w r => simp [more1, lsum_app, lsum]
def psum : List (List UInt8) → Nat
  | [] => 0
  | w :: r => w.length + 1 + psum r
theorem pieces_sum : ∀ (n : Nat) (s : List UInt8), psum (piecesF n s) ≤ s.length + 1
  | 0, s => by simp [piecesF, psum]
  | n + 1, s => by
    rw [piecesF]
    split
    · simp [psum]
    · rename_i h
      have h1 := ixOf_lt s 10 (by omega)
      have := pieces_sum n (s.drop ((ixOf s 10).toNat + 1))
      simp only [List.length_drop] at this
      simp only [psum, List.length_take]
      omega
theorem lines_sum : ∀ (ps : List (List UInt8)) (p : Int) (acc ls : List LineT), linesG ps p acc = .ok ls → lsum ls ≤ lsum acc + psum ps
  | [], p, acc, ls, h => by simp only [linesG, Except.ok.injEq] at h; subst h; simp [psum]
  | l :: ps, p, acc, ls, h => by
    rw [linesG] at h
    split at h
    · cases h
    · have ih := lines_sum ps _ _ ls h
      have hw := (words_sum (trimEnd l [13]).length (trimEnd l [13]) p).1
      have ht := trimEnd_le l [13]
      rw [more1_sum] at ih
      simp only [psum]
      omega
theorem join_len : ∀ (ws : List (List UInt8)), ws ≠ [] → (joinF [32] ws).length + 1 = wsum ws
  | [], h => absurd rfl h
  | [w], _ => by simp [joinF, wsum]
  | w :: w2 :: ws, _ => by
    have := join_len (w2 :: ws) (by simp)
    simp only [joinF, wsum, List.length_append, List.length_cons, List.length_nil] at this ⊢
    omega
/-! ### The facts of a text -/
def f1 (l : LineT) : FactT := (factF l).1
theorem fact_ok {l : LineT} (h : (factF l).2.2 = 0) : factF l = (f1 l, 0, 0) := by
  obtain ⟨a, ps⟩ := l
  cases ps with
  | nil => simp [factF] at h
  | cons w r =>
    unfold f1
    simp only [factF] at h ⊢
    split at h
    · simp at h
    · rename_i F hF
      split at h
      · simp at h
      · rename_i hc
        rw [if_neg hc]
        split at h
        · rename_i q e he
          have h : e = 0 := h
          rcases fillF_err he with e9 | e9 <;> omega
        · rename_i y hy
          rfl
theorem go_ok : ∀ (ls : List LineT) (i : Nat) (acc : List FactT), (goF i ls acc).2.2 = 0 → (∀ l ∈ ls, (factF l).2.2 = 0) ∧ goF i ls acc = (acc ++ ls.map f1, 0, 0) ∧ (ls = [] ∨ i + ls.length ≤ 2000)
  | [], i, acc, _ => by simp [goF]
  | x :: r, i, acc, h => by
    rw [goF] at h ⊢
    split at h
    · simp at h
    · rename_i h2
      rw [if_neg h2]
      split at h
      · rename_i h3
        obtain ⟨a, b, c⟩ := go_ok r (i + 1) _ h
        rw [if_pos h3, b]
        refine ⟨fun l hl => ?_, by simp [f1], ?_⟩
        · rcases List.mem_cons.1 hl with rfl | hl
          · exact h3
          · exact a l hl
        · right
          rcases c with rfl | c
          · simp; omega
          · simp only [List.length_cons]; omega
      · exact absurd h (by assumption)
theorem go_mk : ∀ (ls : List LineT) (i : Nat) (acc : List FactT), (∀ l ∈ ls, (factF l).2.2 = 0) → (ls = [] ∨ i + ls.length ≤ 2000) → goF i ls acc = (acc ++ ls.map f1, 0, 0)
  | [], i, acc, _, _ => by simp [goF]
  | x :: r, i, acc, h, hn => by
    have hn' : i + (r.length + 1) ≤ 2000 := by
      rcases hn with e | e
      · cases e
      · simpa using e
    rw [goF, if_neg (by omega), if_pos (h x (by simp)), go_mk r (i + 1) _ (fun l hl => h l (by simp [hl])) (.inr (by omega))]
    simp [f1]
theorem sameF_at (x : FactT) (a : Int) : sameF (at1 x a) x = true := by simp [sameF, at1]
theorem eqFs_refl : ∀ xs : List FactT, eqFs xs xs = true
  | [] => rfl
  | x :: r => by simp [eqFs, eqFs_refl r, sameF]
theorem facts_same : ∀ (ls ls' : List LineT), ls'.map (fun l => l.2.map (·.1)) = ls.map (fun l => l.2.map (·.1)) → (∀ l ∈ ls, (factF l).2.2 = 0) →
    (∀ l ∈ ls', (factF l).2.2 = 0) ∧ eqFs (ls'.map f1) (ls.map f1) = true ∧ txF (ls'.map f1) = txF (ls.map f1)
  | [], [], _, _ => by simp [eqFs]
  | [], _ :: _, h, _ => by simp at h
  | _ :: _, [], h, _ => by simp at h
  | l :: ls, l' :: ls', h, hk => by
    simp only [List.map_cons, List.cons.injEq] at h
    obtain ⟨a, b, c⟩ := facts_same ls ls' h.2 (fun x hx => hk x (by simp [hx]))
    have e := fact_at (a := l.1) (a' := l'.1) (ps := l.2) (ps' := l'.2) h.1 (fact_ok (hk l (by simp)))
    have e' : factF l' = (at1 (f1 l) l'.1, 0, 0) := e
    have e1 : f1 l' = at1 (f1 l) l'.1 := by unfold f1; rw [e']; rfl
    refine ⟨fun x hx => ?_, ?_, ?_⟩
    · rcases List.mem_cons.1 hx with rfl | hx
      · rw [e']
      · exact a x hx
    · simp only [List.map_cons, eqFs, Bool.and_eq_true]
      exact ⟨by rw [e1]; exact sameF_at _ _, b⟩
    · simp only [List.map_cons, txF, c]
      rw [toldF_tw, toldF_tw, e1, tw_at]
theorem tx_len : ∀ ls : List LineT, (∀ l ∈ ls, (factF l).2.2 = 0) → (txF (ls.map f1)).length = lsum ls
  | [], _ => rfl
  | l :: ls, h => by
    have ih := tx_len ls (fun x hx => h x (by simp [hx]))
    have e := fact_tw (a := l.1) (ps := l.2) (fact_ok (h l (by simp)))
    have hne : l.2 ≠ [] := fun e0 => by
      have := h l (by simp)
      rw [show l = (l.1, l.2) from rfl, e0] at this
      simp [factF] at this
    have hj := join_len (tw (f1 l)) (by rw [e.1]; simpa using hne)
    rw [← toldF_tw, e.1] at hj
    simp only [List.map_cons, txF, List.length_append, List.length_cons, lsum, ih]
    omega
theorem cnt_le (b : Nat) : ∀ l : List UInt8, ∀ k, cntF l b k ≤ l.length + k
  | [], k => by simp [cntF]
  | c :: l, k => by
    rw [cntF]
    cases Nat.beq c.toNat b
    · have := cnt_le b l k; simp only [cond_false, List.length_cons]; omega
    · have := cnt_le b l (Nat.succ k); simp only [cond_true, List.length_cons]; omega
theorem textL_tx : ∀ (xs : List FactT) (acc : List UInt8), acc.length + (txF xs).length ≤ 200000 → textL xs acc = some (acc ++ txF xs)
  | [], acc, _ => by simp [textL, txF]
  | x :: r, acc, h => by
    simp only [txF, List.length_append, List.length_cons] at h
    rw [textL, if_neg (by omega), textL_tx r _ (by simp only [List.length_append, List.length_cons, List.length_nil]; omega)]
    simp [txF]
theorem tx_mem : ∀ (xs : List FactT) (x : FactT), x ∈ xs → (toldF x).length ≤ (txF xs).length
  | y :: r, x, h => by
    simp only [txF, List.length_append, List.length_cons]
    rcases List.mem_cons.1 h with rfl | h
    · omega
    · have := tx_mem r x h; omega
theorem wsum_len : ∀ ws : List (List UInt8), ws.length ≤ wsum ws
  | [] => Nat.le_refl _
  | w :: r => by have := wsum_len r; simp only [wsum, List.length_cons]; omega
theorem L_len (x : FactT) : (formF (kwF x.kind)).isSome = true → x.L.length ≤ (toldF x).length + 1 := by
  intro h
  obtain ⟨F, hF⟩ := Option.isSome_iff_exists.1 h
  have e : tw x = kwF x.kind :: [x.A, x.B, x.C].take F.names.toNat ++ (if F.number = true then [Lib.decDigits x.N.toNat] else []) ++ x.L := by unfold tw; rw [hF]
  have hj := join_len (tw x) (by rw [e]; simp)
  have hw := wsum_len (tw x)
  rw [toldF_tw, hj]
  have : x.L.length ≤ (tw x).length := by rw [e]; simp only [List.length_append]; omega
  omega
/-- What is told of a text's facts is read as the same, and told again it is the same text. -/
theorem text_back {s : List UInt8} (hs : s.length ≤ 4000) (h : (parseF s).2.2 = 0) : ∃ t, textF (parseF s).1 = (t, true) ∧ t.length ≤ 4001 ∧ (parseF t).2.2 = 0 ∧ textF (parseF t).1 = (t, true) ∧ eqFs (parseF t).1 (parseF s).1 = true ∧
    (parseF s).1.length ≤ 2000 ∧ (∀ x ∈ (parseF s).1, toldOk x) ∧ (∀ x ∈ (parseF t).1, toldOk x) := by
  have hl : ∃ ls, (linesOf s) = (ls, 0, 0) ∧ linesG (piecesF s.length s) 0 [] = .ok ls := by
    unfold parseF at h
    split at h
    · rename_i h0
      unfold linesOf at h0 ⊢
      split at h0
      · simp at h0
      · rename_i hb
        rw [if_neg hb]
        split at h0
        · rename_i l hl; exact ⟨l, rfl, hl⟩
        · simp at h0
    · exact absurd h (by assumption)
  obtain ⟨ls, e1, e2⟩ := hl
  have hg : (goF 0 ls []).2.2 = 0 := by
    have h' := h
    unfold parseF at h'
    rw [e1] at h'
    simpa using h'
  obtain ⟨k1, k2, k3⟩ := go_ok ls 0 [] hg
  have eA : parseF s = (ls.map f1, 0, 0) := by unfold parseF; rw [e1]; simpa using k2
  have hsum := lines_sum _ _ _ _ e2
  have hps := pieces_sum s.length s
  have hlen := tx_len ls k1
  simp only [lsum] at hsum
  have gA : ∀ x ∈ ls.map f1, tw x ≠ [] ∧ (∀ w ∈ tw x, isName w = true) ∧ (0 ≤ x.N ∧ x.N < 100) := fun x hx => by
    obtain ⟨l, hl, rfl⟩ := List.mem_map.1 hx
    have e := fact_tw (a := l.1) (ps := l.2) (fact_ok (k1 l hl))
    refine ⟨fun e0 => ?_, e.2⟩
    have hw := e.1
    rw [e0] at hw
    have hne : l.2 = [] := by simpa using hw.symm
    have := k1 l hl
    rw [show l = (l.1, l.2) from rfl, hne] at this
    simp [factF] at this
  have tOk : ∀ (ls : List LineT), (∀ l ∈ ls, (factF l).2.2 = 0) → (txF (ls.map f1)).length ≤ 4001 → ∀ x ∈ ls.map f1, toldOk x := fun ls kk hL x hx => by
    have hm := tx_mem _ _ hx
    obtain ⟨l, hl, rfl⟩ := List.mem_map.1 hx
    have e := fact_tw (a := l.1) (ps := l.2) (fact_ok (kk l hl))
    have hs : (formF (kwF (f1 l).kind)).isSome = true := by
      cases hf : formF (kwF (f1 l).kind) with
      | some F => rfl
      | none =>
        have : tw (f1 l) = [] := by unfold tw; rw [hf]
        have hw := e.1
        rw [this] at hw
        have hne : l.2 = [] := by simpa using hw.symm
        have := kk l hl
        rw [show l = (l.1, l.2) from rfl, hne] at this
        simp [factF] at this
    have := L_len _ hs
    exact ⟨e.2.2, by omega, by omega⟩
  obtain ⟨ls', m1, m2⟩ := lines_told (ls.map f1) _ 0 [] (fun x hx => ⟨(gA x hx).1, (gA x hx).2.1⟩) (Nat.le_refl _)
  have mw : ls'.map (fun l => l.2.map (·.1)) = ls.map (fun l => l.2.map (·.1)) := by
    rw [m2, List.map_map]
    apply List.map_congr_left
    intro l hl
    exact (fact_tw (a := l.1) (ps := l.2) (fact_ok (k1 l hl))).1
  obtain ⟨n1, n2, n3⟩ := facts_same ls ls' mw k1
  have hl2 : ls'.length = ls.length := by have := congrArg List.length mw; simpa using this
  have eT : linesOf (txF (ls.map f1)) = (ls', 0, 0) := by
    unfold linesOf
    have hc := cnt_le 10 (txF (ls.map f1)) 0
    rw [if_neg (by unfold cntOf; omega), m1]
    simp
  have hgo := go_mk ls' 0 [] n1 (by
    rcases k3 with e | e
    · left; rw [e] at hl2; exact List.length_eq_zero_iff.1 hl2
    · right; omega)
  have eB : parseF (txF (ls.map f1)) = (ls'.map f1, 0, 0) := by
    unfold parseF
    rw [eT]
    simpa using hgo
  have hx1 : textF (ls.map f1) = (txF (ls.map f1), true) := by
    unfold textF
    rw [textL_tx _ _ (by simp; omega)]
    simp only [List.nil_append]
    rw [eB, if_pos ⟨rfl, n2⟩]
  have hx2 : textF (ls'.map f1) = (txF (ls.map f1), true) := by
    unfold textF
    rw [textL_tx _ _ (by rw [n3]; simp; omega)]
    simp only [List.nil_append]
    rw [n3, eB, if_pos ⟨rfl, eqFs_refl _⟩]
  refine ⟨txF (ls.map f1), ?_⟩
  rw [eA, eB]
  refine ⟨hx1, by omega, rfl, hx2, n2, ?_, tOk ls k1 (by omega), tOk ls' n1 (by rw [n3]; omega)⟩
  simp only [List.length_map]
  rcases k3 with e | e
  · rw [e]; simp
  · omega
end Go.Fw.Ro
end
section
/- The document's comparisons. -/
namespace Go.Fw.Ro
open Go Go.Fw Go.Fw.Sys
set_option maxRecDepth 100000
variable {H : Mem} {K : AV → Mem → Prop}
theorem STexts_loop {v w : AV} {xs ys : List (List UInt8)} {Q : Ex → Tr → Mem → Prop} (hv : SlR 1 Rs H.get v xs) (hw : SlR 1 Rs H.get w ys) (hl : xs.length = ys.length) (hn : xs.length ≤ 1000000) : ∀ (r t : List (List UInt8)) (i : Nat) (f : Nat → AV), xs.drop i = r → ys.drop i = t → i + r.length = xs.length → f 0 = v → f 1 = w → f 5 = .i .i64 i →
    (∀ f', r ≠ t → f' 4 = .b false → Q .rt (trO 26 f') H) → (∀ f', r = t → Q (.ex 0) (trO 26 f') H) → @W S false (.loop lp_entailref1_SameTexts_0) (trO 26 f) H ⟨Q⟩ := by
  intro r
  have l1 := hv.len
  induction r with
  | nil =>
    intro t i f h1 h2 h3 f0 f1 f5 k1 k2
    simp at h3
    have : t = [] := by rw [← h2]; exact List.drop_eq_nil_of_le (by omega)
    rw [w_loop]
    unfold lp_entailref1_SameTexts_0
    simp (disch := first | omega | (simp only [List.length_cons, List.length_nil, true_and, and_true, nx_push, nx_put, nx_mark]; done) | (simp only [List.length_cons, List.length_nil, true_and, and_true, nx_push, nx_put, nx_mark]; omega)) only [go_sem, ↓reduceIte, Nat.reduceAdd, Nat.reduceMul, Nat.reduceSub, Int.reduceToNat, UInt8.reduceToNat, Nat.reduceLeDiff, Nat.reduceEqDiff, Nat.sub_zero, Int.add_zero, Int.zero_add, Nat.add_zero, Nat.zero_add, Nat.zero_mul, f0, f1, f5, l1]
    exact atQ 26 rfl (k2 _ this.symm)
  | cons x r ih =>
    intro t i f h1 h2 h3 f0 f1 f5 k1 k2
    simp at h3
    cases t with
    | nil => have := congrArg List.length h2; simp at this; omega
    | cons y t =>
      have hx : xs[i]? = some x := by rw [← List.head?_drop, h1]; rfl
      have hy : ys[i]? = some y := by rw [← List.head?_drop, h2]; rfl
      have hr1 : xs.drop (i + 1) = r := by rw [← List.drop_drop, h1]; rfl
      have ht1 : ys.drop (i + 1) = t := by rw [← List.drop_drop, h2]; rfl
      obtain ⟨id, p, c, y1, y2, y3, y4, y5, y6⟩ := hv.at_ hx
      obtain ⟨jd, q, d, z1, z2, z3, z4, z5, z6⟩ := hw.at_ hy
      simp only [Rs] at y2 z2
      subst y2 z2
      have y7 : ldO (H.get id) false 1 p = some (.s x) := y3 0 (by omega)
      have z7 : ldO (H.get jd) false 1 q = some (.s y) := z3 0 (by omega)
      rw [w_loop]
      unfold lp_entailref1_SameTexts_0
      simp (disch := first | omega | (simp only [List.length_cons, List.length_nil, true_and, and_true, nx_push, nx_put, nx_mark]; done) | (simp only [List.length_cons, List.length_nil, true_and, and_true, nx_push, nx_put, nx_mark]; omega)) only [go_sem, ↓reduceIte, Nat.reduceAdd, Nat.reduceMul, Nat.reduceSub, Int.reduceToNat, UInt8.reduceToNat, Nat.reduceLeDiff, Nat.reduceEqDiff, Nat.sub_zero, Int.add_zero, Int.zero_add, Nat.add_zero, Nat.zero_add, Nat.zero_mul, f0, f1, f5, l1]
      refine w_dregA rfl rfl ?_
      simp (disch := first | omega | (simp only [List.length_cons, List.length_nil, true_and, and_true, nx_push, nx_put, nx_mark]; done) | (simp only [List.length_cons, List.length_nil, true_and, and_true, nx_push, nx_put, nx_mark]; omega)) only [go_sem, ↓reduceIte, Nat.reduceAdd, Nat.reduceMul, Nat.reduceSub, Int.reduceToNat, UInt8.reduceToNat, Nat.reduceLeDiff, Nat.reduceEqDiff, Nat.sub_zero, Int.add_zero, Int.zero_add, Nat.add_zero, Nat.zero_add, Nat.zero_mul, f0, f1, f5, y1, y7, z1, z7]
      refine cnd_dec (fun hne => ?_) (fun he => ?_)
      · simp (disch := first | omega | (simp only [List.length_cons, List.length_nil, true_and, and_true, nx_push, nx_put, nx_mark]; done) | (simp only [List.length_cons, List.length_nil, true_and, and_true, nx_push, nx_put, nx_mark]; omega)) only [go_sem, ↓reduceIte, Nat.reduceAdd, Nat.reduceMul, Nat.reduceSub, Int.reduceToNat, UInt8.reduceToNat, Nat.reduceLeDiff, Nat.reduceEqDiff, Nat.sub_zero, Int.add_zero, Int.zero_add, Nat.add_zero, Nat.zero_add, Nat.zero_mul]
        exact atQ 26 rfl (k1 _ (fun e => hne (List.cons.inj e).1) rfl)
      · simp (disch := first | omega | (simp only [List.length_cons, List.length_nil, true_and, and_true, nx_push, nx_put, nx_mark]; done) | (simp only [List.length_cons, List.length_nil, true_and, and_true, nx_push, nx_put, nx_mark]; omega)) only [go_sem, ↓reduceIte, Nat.reduceAdd, Nat.reduceMul, Nat.reduceSub, Int.reduceToNat, UInt8.reduceToNat, Nat.reduceLeDiff, Nat.reduceEqDiff, Nat.sub_zero, Int.add_zero, Int.zero_add, Nat.add_zero, Nat.zero_add, Nat.zero_mul]
        have he : x = y := Decidable.byContradiction he
        refine atW 26 rfl (ih t (i + 1) _ hr1 ht1 (by omega) rfl rfl rfl (fun f' a b => k1 f' (fun e => a (List.cons.inj e).2) b) (fun f' a => k2 f' (by rw [he, a])))
theorem STexts_run {v w : AV} {xs ys : List (List UInt8)} (hv : SlR 1 Rs H.get v xs) (hw : SlR 1 Rs H.get w ys) (hn : xs.length ≤ 1000000) (h : K (.b (decide (xs = ys))) H) : @R S (.f n_entailref1_SameTexts) [v, w] H ⟨K⟩ := by
  refine run_fn2 rfl rfl ?_
  unfold bd_entailref1_SameTexts
  have l1 := hv.len
  have l2 := hw.len
  simp (disch := first | omega | (simp only [List.length_cons, List.length_nil, true_and, and_true, nx_push, nx_put, nx_mark]; done) | (simp only [List.length_cons, List.length_nil, true_and, and_true, nx_push, nx_put, nx_mark]; omega)) only [go_sem, ↓reduceIte, Nat.reduceAdd, Nat.reduceMul, Nat.reduceSub, Int.reduceToNat, UInt8.reduceToNat, Nat.reduceLeDiff, Nat.reduceEqDiff, Nat.sub_zero, Int.add_zero, Int.zero_add, Nat.add_zero, Nat.zero_add, Nat.zero_mul, l1, l2]
  by_cases hl : xs.length = ys.length
  · have hl' : (xs.length : Int) = ys.length := by omega
    simp (disch := first | omega | (simp only [List.length_cons, List.length_nil, true_and, and_true, nx_push, nx_put, nx_mark]; done) | (simp only [List.length_cons, List.length_nil, true_and, and_true, nx_push, nx_put, nx_mark]; omega)) only [go_sem, ↓reduceIte, Nat.reduceAdd, Nat.reduceMul, Nat.reduceSub, Int.reduceToNat, UInt8.reduceToNat, Nat.reduceLeDiff, Nat.reduceEqDiff, Nat.sub_zero, Int.add_zero, Int.zero_add, Nat.add_zero, Nat.zero_add, Nat.zero_mul, l1, l2]
    refine atW 26 rfl (STexts_loop (H := H.mark []) hv hw hl hn xs ys 0 _ rfl rfl (by omega) rfl rfl rfl (fun f' a b => ?_) (fun f' a => ?_))
    · simp (disch := first | omega | (simp only [List.length_cons, List.length_nil, true_and, and_true, nx_push, nx_put, nx_mark]; done) | (simp only [List.length_cons, List.length_nil, true_and, and_true, nx_push, nx_put, nx_mark]; omega)) only [go_sem, ↓reduceIte, Nat.reduceAdd, Nat.reduceMul, Nat.reduceSub, Int.reduceToNat, UInt8.reduceToNat, Nat.reduceLeDiff, Nat.reduceEqDiff, Nat.sub_zero, Int.add_zero, Int.zero_add, Nat.add_zero, Nat.zero_add, Nat.zero_mul, b]
      exact kb (by simp [a]) h
    · simp (disch := first | omega | (simp only [List.length_cons, List.length_nil, true_and, and_true, nx_push, nx_put, nx_mark]; done) | (simp only [List.length_cons, List.length_nil, true_and, and_true, nx_push, nx_put, nx_mark]; omega)) only [go_sem, ↓reduceIte, Nat.reduceAdd, Nat.reduceMul, Nat.reduceSub, Int.reduceToNat, UInt8.reduceToNat, Nat.reduceLeDiff, Nat.reduceEqDiff, Nat.sub_zero, Int.add_zero, Int.zero_add, Nat.add_zero, Nat.zero_add, Nat.zero_mul]
      exact kb (by simp [a]) h
  · have ne : xs ≠ ys := fun e => hl (by rw [e])
    simp (disch := first | omega | (simp only [List.length_cons, List.length_nil, true_and, and_true, nx_push, nx_put, nx_mark]; done) | (simp only [List.length_cons, List.length_nil, true_and, and_true, nx_push, nx_put, nx_mark]; omega)) only [go_sem, ↓reduceIte, Nat.reduceAdd, Nat.reduceMul, Nat.reduceSub, Int.reduceToNat, UInt8.reduceToNat, Nat.reduceLeDiff, Nat.reduceEqDiff, Nat.sub_zero, Int.add_zero, Int.zero_add, Nat.add_zero, Nat.zero_add, Nat.zero_mul, l1, l2]
    exact kb (by simp [ne]) h
theorem SFacts_loop {v w : AV} {xs ys : List FactT} {H0 : Mem} {Q : Ex → Tr → Mem → Prop} (w0 : Wf H0) (hv : SlR 7 Rfact H0.get v xs) (hw : SlR 7 Rfact H0.get w ys) (hl : xs.length = ys.length) (hn : xs.length ≤ 1000000) (hL : ∀ x ∈ xs, x.L.length ≤ 1000000) : ∀ (r t : List FactT) (i : Nat) (f : Nat → AV) (H : Mem), xs.drop i = r → ys.drop i = t → i + r.length = xs.length → Ext H0.next H0 H → f 0 = v → f 1 = w → f 5 = .i .i64 i →
    (∀ f' H', eqFs r t = false → f' 4 = .b false → Ext H0.next H0 H' → Q .rt (trO 68 f') H') → (∀ f' H', eqFs r t = true → Ext H0.next H0 H' → Q (.ex 0) (trO 68 f') H') → @W S false (.loop lp_entailref13_SameFacts_0) (trO 68 f) H ⟨Q⟩ := by
  intro r
  have l1 := hv.len
  induction r with
  | nil =>
    intro t i f H h1 h2 h3 hx f0 f1 f5 k1 k2
    simp at h3
    have : t = [] := by rw [← h2]; exact List.drop_eq_nil_of_le (by omega)
    rw [w_loop]
    unfold lp_entailref13_SameFacts_0
    simp (disch := first | omega | (simp only [List.length_cons, List.length_nil, true_and, and_true, nx_push, nx_put, nx_mark]; done) | (simp only [List.length_cons, List.length_nil, true_and, and_true, nx_push, nx_put, nx_mark]; omega)) only [go_sem, ↓reduceIte, Nat.reduceAdd, Nat.reduceMul, Nat.reduceSub, Int.reduceToNat, UInt8.reduceToNat, Nat.reduceLeDiff, Nat.reduceEqDiff, Nat.sub_zero, Int.add_zero, Int.zero_add, Nat.add_zero, Nat.zero_add, Nat.zero_mul, f0, f1, f5, l1]
    exact atQ 68 rfl (k2 _ H (by rw [this]; rfl) hx)
  | cons x r ih =>
    intro t i f H h1 h2 h3 hE f0 f1 f5 k1 k2
    simp at h3
    cases t with
    | nil => have := congrArg List.length h2; simp at this; omega
    | cons y t =>
      have hx : xs[i]? = some x := by rw [← List.head?_drop, h1]; rfl
      have hy : ys[i]? = some y := by rw [← List.head?_drop, h2]; rfl
      have hr1 : xs.drop (i + 1) = r := by rw [← List.drop_drop, h1]; rfl
      have ht1 : ys.drop (i + 1) = t := by rw [← List.drop_drop, h2]; rfl
      have hlx := hL x (List.mem_of_getElem? hx)
      obtain ⟨id, p, c, y1, y2, y3, y4, y5, y6⟩ := (hv.mono Rfact_mono (le_up hE w0 (Nat.le_refl _))).at_ hx
      obtain ⟨jd, q, d, z1, z2, z3, z4, z5, z6⟩ := (hw.mono Rfact_mono (le_up hE w0 (Nat.le_refl _))).at_ hy
      obtain ⟨g, rfl, gr⟩ := y2
      obtain ⟨g', rfl, gr'⟩ := z2
      have hid := hE.wf id y6
      have hjd := hE.wf jd z6
      have g1 := gr.one
      have g2 := gr'.one
      have n0 := hE.next
      have hm2 : Ext H.next H (more H 2) := ⟨by simp only [nx_more]; omega, rfl, fun _ _ => rfl, hE.wf.more⟩
      have hx1 : ∀ o1 o2 o3 o4, Ext H.next H (((((more H 2).put H.next o1).put (H.next + 1) o2).put H.next o3).put (H.next + 1) o4) := fun _ _ _ _ => ((((hm2.put (Nat.le_refl _) (by simp only [nx_more]; omega) _).put (by first | omega | (simp only [nx_push, nx_put, nx_mark]; done) | (simp only [nx_push, nx_put, nx_mark]; omega)) (by simp only [nx_more, nx_put]; omega) _).put (by first | omega | (simp only [nx_push, nx_put, nx_mark]; done) | (simp only [nx_push, nx_put, nx_mark]; omega)) (by simp only [nx_more, nx_put]; omega) _).put (by first | omega | (simp only [nx_push, nx_put, nx_mark]; done) | (simp only [nx_push, nx_put, nx_mark]; omega)) (by simp only [nx_more, nx_put]; omega) _)
      rw [w_loop]
      unfold lp_entailref13_SameFacts_0
      simp only [factC] at y4 z4
      simp (disch := first | omega | (simp only [List.length_cons, List.length_nil, true_and, and_true, nx_push, nx_put, nx_mark]; done) | (simp only [List.length_cons, List.length_nil, true_and, and_true, nx_push, nx_put, nx_mark]; omega)) only [go_sem, ↓reduceIte, Nat.reduceAdd, Nat.reduceMul, Nat.reduceSub, Int.reduceToNat, UInt8.reduceToNat, Nat.reduceLeDiff, Nat.reduceEqDiff, Nat.sub_zero, Int.add_zero, Int.zero_add, Nat.add_zero, Nat.zero_add, Nat.zero_mul, f0, f1, f5, l1]
      refine w_dregB [10, 11] 2 rfl rfl rfl rfl ?_
      simp (disch := first | omega | (simp only [List.length_cons, List.length_nil, true_and, and_true, nx_push, nx_put, nx_mark]; done) | (simp only [List.length_cons, List.length_nil, true_and, and_true, nx_push, nx_put, nx_mark]; omega)) only [go_sem, ↓reduceIte, Nat.reduceAdd, Nat.reduceMul, Nat.reduceSub, Int.reduceToNat, UInt8.reduceToNat, Nat.reduceLeDiff, Nat.reduceEqDiff, Nat.sub_zero, Int.add_zero, Int.zero_add, Nat.add_zero, Nat.zero_add, Nat.zero_mul, f0, f1, f5, y1, y4, z1, z4, g1, g2]
      have d1 : H.get H.next = .dead := hE.wf.far (Nat.le_refl _)
      have d2 : H.get (H.next + 1) = .dead := hE.wf.far (by omega)
      refine ⟨by rw [d1, d2]; rfl, ?_⟩
      have ne : sameF x y = false → eqFs (x :: r) (y :: t) = false := fun e => by simp only [eqFs, e]; rfl
      by_cases h1 : x.kind = y.kind
      · by_cases h2 : x.A = y.A
        · by_cases h3 : x.B = y.B
          · by_cases h4 : x.C = y.C
            · by_cases h5 : x.N = y.N
              · simp (disch := first | omega | (simp only [List.length_cons, List.length_nil, true_and, and_true, nx_push, nx_put, nx_mark]; done) | (simp only [List.length_cons, List.length_nil, true_and, and_true, nx_push, nx_put, nx_mark]; omega)) only [go_sem, ↓reduceIte, Nat.reduceAdd, Nat.reduceMul, Nat.reduceSub, Int.reduceToNat, UInt8.reduceToNat, Nat.reduceLeDiff, Nat.reduceEqDiff, Nat.sub_zero, Int.add_zero, Int.zero_add, Nat.add_zero, Nat.zero_add, Nat.zero_mul, h1, h2, h3, h4, h5]
                have gx := hx1 (AO.mem [AV.i IntKind.i64 0, AV.s [], AV.s [], AV.s [], AV.i IntKind.i64 0, AV.nsl, AV.i IntKind.i64 0] 0 ty_api_Fact true 0) (AO.mem [AV.i IntKind.i64 0, AV.s [], AV.s [], AV.s [], AV.i IntKind.i64 0, AV.nsl, AV.i IntKind.i64 0] 0 ty_api_Fact true 0) (AO.mem [AV.i IntKind.i64 y.kind, AV.s y.A, AV.s y.B, AV.s y.C, AV.i IntKind.i64 y.N, g, AV.i IntKind.i64 x.at_] 0 ty_api_Fact true 0) (AO.mem [AV.i IntKind.i64 y.kind, AV.s y.A, AV.s y.B, AV.s y.C, AV.i IntKind.i64 y.N, g', AV.i IntKind.i64 y.at_] 0 ty_api_Fact true 0)
                refine STexts_run (gr.mono Rs_mono (le_up gx hE.wf (Nat.le_refl _))) (gr'.mono Rs_mono (le_up gx hE.wf (Nat.le_refl _))) hlx ?_
                by_cases h6 : x.L = y.L
                · simp (disch := first | omega | (simp only [List.length_cons, List.length_nil, true_and, and_true, nx_push, nx_put, nx_mark]; done) | (simp only [List.length_cons, List.length_nil, true_and, and_true, nx_push, nx_put, nx_mark]; omega)) only [go_sem, ↓reduceIte, Nat.reduceAdd, Nat.reduceMul, Nat.reduceSub, Int.reduceToNat, UInt8.reduceToNat, Nat.reduceLeDiff, Nat.reduceEqDiff, Nat.sub_zero, Int.add_zero, Int.zero_add, Nat.add_zero, Nat.zero_add, Nat.zero_mul, h6]
                  have e : eqFs (x :: r) (y :: t) = eqFs r t := by simp [eqFs, sameF, h1, h2, h3, h4, h5, h6]
                  rw [e] at k1 k2
                  refine atW 68 rfl (ih t (i + 1) _ _ hr1 ht1 (by omega) (hE.trans gx n0) rfl rfl rfl k1 k2)
                · simp (disch := first | omega | (simp only [List.length_cons, List.length_nil, true_and, and_true, nx_push, nx_put, nx_mark]; done) | (simp only [List.length_cons, List.length_nil, true_and, and_true, nx_push, nx_put, nx_mark]; omega)) only [go_sem, ↓reduceIte, Nat.reduceAdd, Nat.reduceMul, Nat.reduceSub, Int.reduceToNat, UInt8.reduceToNat, Nat.reduceLeDiff, Nat.reduceEqDiff, Nat.sub_zero, Int.add_zero, Int.zero_add, Nat.add_zero, Nat.zero_add, Nat.zero_mul, h6]
                  exact atQ 68 rfl (k1 _ _ (ne (by simp [sameF, h6])) rfl (hE.trans gx n0))
              · simp (disch := first | omega | (simp only [List.length_cons, List.length_nil, true_and, and_true, nx_push, nx_put, nx_mark]; done) | (simp only [List.length_cons, List.length_nil, true_and, and_true, nx_push, nx_put, nx_mark]; omega)) only [go_sem, ↓reduceIte, Nat.reduceAdd, Nat.reduceMul, Nat.reduceSub, Int.reduceToNat, UInt8.reduceToNat, Nat.reduceLeDiff, Nat.reduceEqDiff, Nat.sub_zero, Int.add_zero, Int.zero_add, Nat.add_zero, Nat.zero_add, Nat.zero_mul, h1, h2, h3, h4, h5]
                exact atQ 68 rfl (k1 _ _ (ne (by simp [sameF, h5])) rfl (hE.trans (hx1 _ _ _ _) n0))
            · simp (disch := first | omega | (simp only [List.length_cons, List.length_nil, true_and, and_true, nx_push, nx_put, nx_mark]; done) | (simp only [List.length_cons, List.length_nil, true_and, and_true, nx_push, nx_put, nx_mark]; omega)) only [go_sem, ↓reduceIte, Nat.reduceAdd, Nat.reduceMul, Nat.reduceSub, Int.reduceToNat, UInt8.reduceToNat, Nat.reduceLeDiff, Nat.reduceEqDiff, Nat.sub_zero, Int.add_zero, Int.zero_add, Nat.add_zero, Nat.zero_add, Nat.zero_mul, h1, h2, h3, h4]
              exact atQ 68 rfl (k1 _ _ (ne (by simp [sameF, h4])) rfl (hE.trans (hx1 _ _ _ _) n0))
          · simp (disch := first | omega | (simp only [List.length_cons, List.length_nil, true_and, and_true, nx_push, nx_put, nx_mark]; done) | (simp only [List.length_cons, List.length_nil, true_and, and_true, nx_push, nx_put, nx_mark]; omega)) only [go_sem, ↓reduceIte, Nat.reduceAdd, Nat.reduceMul, Nat.reduceSub, Int.reduceToNat, UInt8.reduceToNat, Nat.reduceLeDiff, Nat.reduceEqDiff, Nat.sub_zero, Int.add_zero, Int.zero_add, Nat.add_zero, Nat.zero_add, Nat.zero_mul, h1, h2, h3]
            exact atQ 68 rfl (k1 _ _ (ne (by simp [sameF, h3])) rfl (hE.trans (hx1 _ _ _ _) n0))
        · simp (disch := first | omega | (simp only [List.length_cons, List.length_nil, true_and, and_true, nx_push, nx_put, nx_mark]; done) | (simp only [List.length_cons, List.length_nil, true_and, and_true, nx_push, nx_put, nx_mark]; omega)) only [go_sem, ↓reduceIte, Nat.reduceAdd, Nat.reduceMul, Nat.reduceSub, Int.reduceToNat, UInt8.reduceToNat, Nat.reduceLeDiff, Nat.reduceEqDiff, Nat.sub_zero, Int.add_zero, Int.zero_add, Nat.add_zero, Nat.zero_add, Nat.zero_mul, h1, h2]
          exact atQ 68 rfl (k1 _ _ (ne (by simp [sameF, h2])) rfl (hE.trans (hx1 _ _ _ _) n0))
      · simp (disch := first | omega | (simp only [List.length_cons, List.length_nil, true_and, and_true, nx_push, nx_put, nx_mark]; done) | (simp only [List.length_cons, List.length_nil, true_and, and_true, nx_push, nx_put, nx_mark]; omega)) only [go_sem, ↓reduceIte, Nat.reduceAdd, Nat.reduceMul, Nat.reduceSub, Int.reduceToNat, UInt8.reduceToNat, Nat.reduceLeDiff, Nat.reduceEqDiff, Nat.sub_zero, Int.add_zero, Int.zero_add, Nat.add_zero, Nat.zero_add, Nat.zero_mul, h1]
        exact atQ 68 rfl (k1 _ _ (ne (by simp [sameF, h1])) rfl (hE.trans (hx1 _ _ _ _) n0))
theorem SFacts_run {v w : AV} {xs ys : List FactT} (hv : SlR 7 Rfact H.get v xs) (hy : SlR 7 Rfact H.get w ys) (hw : Wf H) (hn : xs.length ≤ 1000000) (hL : ∀ x ∈ xs, x.L.length ≤ 1000000) (h : ∀ H', Ext H.next H H' → K (.b (eqFs xs ys)) H') : @R S (.f n_entailref13_SameFacts) [v, w] H ⟨K⟩ := by
  refine run_fn2 rfl rfl ?_
  unfold bd_entailref13_SameFacts
  have l1 := hv.len
  have l2 := hy.len
  simp (disch := first | omega | (simp only [List.length_cons, List.length_nil, true_and, and_true, nx_push, nx_put, nx_mark]; done) | (simp only [List.length_cons, List.length_nil, true_and, and_true, nx_push, nx_put, nx_mark]; omega)) only [go_sem, ↓reduceIte, Nat.reduceAdd, Nat.reduceMul, Nat.reduceSub, Int.reduceToNat, UInt8.reduceToNat, Nat.reduceLeDiff, Nat.reduceEqDiff, Nat.sub_zero, Int.add_zero, Int.zero_add, Nat.add_zero, Nat.zero_add, Nat.zero_mul, l1, l2]
  by_cases hl : xs.length = ys.length
  · have hl' : (xs.length : Int) = ys.length := by omega
    simp (disch := first | omega | (simp only [List.length_cons, List.length_nil, true_and, and_true, nx_push, nx_put, nx_mark]; done) | (simp only [List.length_cons, List.length_nil, true_and, and_true, nx_push, nx_put, nx_mark]; omega)) only [go_sem, ↓reduceIte, Nat.reduceAdd, Nat.reduceMul, Nat.reduceSub, Int.reduceToNat, UInt8.reduceToNat, Nat.reduceLeDiff, Nat.reduceEqDiff, Nat.sub_zero, Int.add_zero, Int.zero_add, Nat.add_zero, Nat.zero_add, Nat.zero_mul, hl']
    refine atW 68 rfl (SFacts_loop (H0 := H.mark []) hw hv hy hl hn hL xs ys 0 _ (H.mark []) rfl rfl (by omega) (Ext.refl (H := H.mark []) hw) rfl rfl rfl (fun f' H' a b c => ?_) (fun f' H' a c => ?_))
    · have hm : H'.marks = [] := c.marks
      rw [a] at h
      simp (disch := first | omega | (simp only [List.length_cons, List.length_nil, true_and, and_true, nx_push, nx_put, nx_mark]; done) | (simp only [List.length_cons, List.length_nil, true_and, and_true, nx_push, nx_put, nx_mark]; omega)) only [go_sem, ↓reduceIte, Nat.reduceAdd, Nat.reduceMul, Nat.reduceSub, Int.reduceToNat, UInt8.reduceToNat, Nat.reduceLeDiff, Nat.reduceEqDiff, Nat.sub_zero, Int.add_zero, Int.zero_add, Nat.add_zero, Nat.zero_add, Nat.zero_mul, b, hm]
      exact h _ (Ext.mark c)
    · have hm : H'.marks = [] := c.marks
      rw [a] at h
      simp (disch := first | omega | (simp only [List.length_cons, List.length_nil, true_and, and_true, nx_push, nx_put, nx_mark]; done) | (simp only [List.length_cons, List.length_nil, true_and, and_true, nx_push, nx_put, nx_mark]; omega)) only [go_sem, ↓reduceIte, Nat.reduceAdd, Nat.reduceMul, Nat.reduceSub, Int.reduceToNat, UInt8.reduceToNat, Nat.reduceLeDiff, Nat.reduceEqDiff, Nat.sub_zero, Int.add_zero, Int.zero_add, Nat.add_zero, Nat.zero_add, Nat.zero_mul, hm]
      exact h _ (Ext.mark c)
  · have hl' : ¬ ((xs.length : Int) = ys.length) := by omega
    have e : eqFs xs ys = false := by
      cases he : eqFs xs ys with
      | false => rfl
      | true => exact absurd (eqFs_len he) hl
    rw [e] at h
    simp (disch := first | omega | (simp only [List.length_cons, List.length_nil, true_and, and_true, nx_push, nx_put, nx_mark]; done) | (simp only [List.length_cons, List.length_nil, true_and, and_true, nx_push, nx_put, nx_mark]; omega)) only [go_sem, ↓reduceIte, Nat.reduceAdd, Nat.reduceMul, Nat.reduceSub, Int.reduceToNat, UInt8.reduceToNat, Nat.reduceLeDiff, Nat.reduceEqDiff, Nat.sub_zero, Int.add_zero, Int.zero_add, Nat.add_zero, Nat.zero_add, Nat.zero_mul, hl']
    exact h _ (Ext.refl hw)
end Go.Fw.Ro
end
section
/- The document's Name; the verifier's texts. -/
namespace Go.Fw.Ro
open Go Go.Fw Go.Fw.Sys
set_option maxRecDepth 100000
variable {H : Mem} {K : AV → Mem → Prop}
@[go_sem] theorem alnum_run {c : Int} : @R S (.f n_entailref1_alnum) [.i .u8 c] H ⟨K⟩ ↔ K (.b (isFirst c)) H := by
  refine run_iff fun K h => ?_
  refine run_fn2 rfl rfl ?_
  unfold bd_entailref1_alnum
  repeat' (first | (simp (disch := first | omega | (simp only [List.length_cons, List.length_nil, true_and, and_true, nx_push, nx_put, nx_mark]; done) | (simp only [List.length_cons, List.length_nil, true_and, and_true, nx_push, nx_put, nx_mark]; omega)) only [go_sem, ↓reduceIte, Nat.reduceAdd, Nat.reduceMul, Nat.reduceSub, Int.reduceToNat, UInt8.reduceToNat, Nat.reduceLeDiff, Nat.reduceEqDiff, Nat.sub_zero, Int.add_zero, Int.zero_add, Nat.add_zero, Nat.zero_add, Nat.zero_mul, *]) | with_reducible refine grd_dec (fun _ => ?_) (fun _ => ?_) | with_reducible refine cnd_dec (fun _ => ?_) (fun _ => ?_) | with_reducible refine grd_bool (fun _ => ?_) (fun _ => ?_) | with_reducible refine cnd_bool (fun _ => ?_) (fun _ => ?_))
  all_goals refine kb ?_ h
  all_goals first | (simp [isFirst, *]; done) | (simp [isFirst, *]; omega)
theorem plain_of {c : Int} (h1 : isFirst c = false) (h2 : c ≠ 95) (h3 : c ≠ 45) (h4 : c ≠ 46) : isPlain c = false := by simp [isPlain, h1, h2, h3, h4]
theorem RName_loop {s : List UInt8} {Q : Ex → Tr → Mem → Prop} : ∀ (r : List UInt8) (i : Nat) (f : Nat → AV), i + r.length = s.length → s.drop i = r → s.length ≤ 30 → f 0 = .s s → f 3 = .i .i64 i →
    (∀ f', f' 2 = .b false → r.all (fun c => isPlain c.toNat) = false → Q .rt (trO 47 f') H) → (∀ f', r.all (fun c => isPlain c.toNat) = true → Q (.ex 0) (trO 47 f') H) → @W S false (.loop lp_entailref1_Name_0) (trO 47 f) H ⟨Q⟩ := by
  intro r
  induction r with
  | nil =>
    intro i f h1 h2 h3 e0 e3 k1 k2
    rw [w_loop]
    unfold lp_entailref1_Name_0
    simp at h1
    simp (disch := first | omega | (simp only [List.length_cons, List.length_nil, true_and, and_true, nx_push, nx_put, nx_mark]; done) | (simp only [List.length_cons, List.length_nil, true_and, and_true, nx_push, nx_put, nx_mark]; omega)) only [go_sem, ↓reduceIte, Nat.reduceAdd, Nat.reduceMul, Nat.reduceSub, Int.reduceToNat, UInt8.reduceToNat, Nat.reduceLeDiff, Nat.reduceEqDiff, Nat.sub_zero, Int.add_zero, Int.zero_add, Nat.add_zero, Nat.zero_add, Nat.zero_mul, e0, e3, h1]
    exact atQ 47 rfl (k2 _ rfl)
  | cons c r ih =>
    intro i f h1 h2 h3 e0 e3 k1 k2
    rw [w_loop]
    unfold lp_entailref1_Name_0
    simp (disch := first | omega | (simp only [List.length_cons, List.length_nil, true_and, and_true, nx_push, nx_put, nx_mark]; done) | (simp only [List.length_cons, List.length_nil, true_and, and_true, nx_push, nx_put, nx_mark]; omega)) only [go_sem, ↓reduceIte, Nat.reduceAdd, Nat.reduceMul, Nat.reduceSub, Int.reduceToNat, UInt8.reduceToNat, Nat.reduceLeDiff, Nat.reduceEqDiff, Nat.sub_zero, Int.add_zero, Int.zero_add, Nat.add_zero, Nat.zero_add, Nat.zero_mul, e0, e3]
    simp at h1
    have hc : s[i]? = some c := by rw [← List.head?_drop, h2]; rfl
    simp (disch := first | omega | (simp only [List.length_cons, List.length_nil, true_and, and_true, nx_push, nx_put, nx_mark]; done) | (simp only [List.length_cons, List.length_nil, true_and, and_true, nx_push, nx_put, nx_mark]; omega)) only [go_sem, ↓reduceIte, Nat.reduceAdd, Nat.reduceMul, Nat.reduceSub, Int.reduceToNat, UInt8.reduceToNat, Nat.reduceLeDiff, Nat.reduceEqDiff, Nat.sub_zero, Int.add_zero, Int.zero_add, Nat.add_zero, Nat.zero_add, Nat.zero_mul, e0, e3, hc]
    have go : ∀ (b : Bool), isPlain c.toNat = b → (isPlain c.toNat = b) := fun _ h => h
    cases hp : isFirst c.toNat with
    | true =>
      have hq : isPlain c.toNat = true := by simp [isPlain, hp]
      simp (disch := first | omega | (simp only [List.length_cons, List.length_nil, true_and, and_true, nx_push, nx_put, nx_mark]; done) | (simp only [List.length_cons, List.length_nil, true_and, and_true, nx_push, nx_put, nx_mark]; omega)) only [go_sem, ↓reduceIte, Nat.reduceAdd, Nat.reduceMul, Nat.reduceSub, Int.reduceToNat, UInt8.reduceToNat, Nat.reduceLeDiff, Nat.reduceEqDiff, Nat.sub_zero, Int.add_zero, Int.zero_add, Nat.add_zero, Nat.zero_add, Nat.zero_mul]
      refine atW 47 rfl (ih (i + 1) _ (by omega) (by rw [← List.drop_drop, h2]; rfl) h3 rfl rfl (fun f' a b => k1 f' a ?_) (fun f' a => k2 f' ?_))
      · rw [List.all_cons, hq]; exact b
      · rw [List.all_cons, hq]; exact a
    | false =>
      by_cases n1 : (c.toNat : Int) = 95
      · have hq : isPlain c.toNat = true := by simp [isPlain, n1]
        simp (disch := first | omega | (simp only [List.length_cons, List.length_nil, true_and, and_true, nx_push, nx_put, nx_mark]; done) | (simp only [List.length_cons, List.length_nil, true_and, and_true, nx_push, nx_put, nx_mark]; omega)) only [go_sem, ↓reduceIte, Nat.reduceAdd, Nat.reduceMul, Nat.reduceSub, Int.reduceToNat, UInt8.reduceToNat, Nat.reduceLeDiff, Nat.reduceEqDiff, Nat.sub_zero, Int.add_zero, Int.zero_add, Nat.add_zero, Nat.zero_add, Nat.zero_mul, n1, hc]
        refine atW 47 rfl (ih (i + 1) _ (by omega) (by rw [← List.drop_drop, h2]; rfl) h3 rfl rfl (fun f' a b => k1 f' a ?_) (fun f' a => k2 f' ?_))
        · rw [List.all_cons, hq]; exact b
        · rw [List.all_cons, hq]; exact a
      · by_cases n2 : (c.toNat : Int) = 45
        · have hq : isPlain c.toNat = true := by simp [isPlain, n2]
          simp (disch := first | omega | (simp only [List.length_cons, List.length_nil, true_and, and_true, nx_push, nx_put, nx_mark]; done) | (simp only [List.length_cons, List.length_nil, true_and, and_true, nx_push, nx_put, nx_mark]; omega)) only [go_sem, ↓reduceIte, Nat.reduceAdd, Nat.reduceMul, Nat.reduceSub, Int.reduceToNat, UInt8.reduceToNat, Nat.reduceLeDiff, Nat.reduceEqDiff, Nat.sub_zero, Int.add_zero, Int.zero_add, Nat.add_zero, Nat.zero_add, Nat.zero_mul, n1, n2, hc]
          refine atW 47 rfl (ih (i + 1) _ (by omega) (by rw [← List.drop_drop, h2]; rfl) h3 rfl rfl (fun f' a b => k1 f' a ?_) (fun f' a => k2 f' ?_))
          · rw [List.all_cons, hq]; exact b
          · rw [List.all_cons, hq]; exact a
        · by_cases n3 : (c.toNat : Int) = 46
          · have hq : isPlain c.toNat = true := by simp [isPlain, n3]
            simp (disch := first | omega | (simp only [List.length_cons, List.length_nil, true_and, and_true, nx_push, nx_put, nx_mark]; done) | (simp only [List.length_cons, List.length_nil, true_and, and_true, nx_push, nx_put, nx_mark]; omega)) only [go_sem, ↓reduceIte, Nat.reduceAdd, Nat.reduceMul, Nat.reduceSub, Int.reduceToNat, UInt8.reduceToNat, Nat.reduceLeDiff, Nat.reduceEqDiff, Nat.sub_zero, Int.add_zero, Int.zero_add, Nat.add_zero, Nat.zero_add, Nat.zero_mul, n1, n2, n3, hc]
            refine atW 47 rfl (ih (i + 1) _ (by omega) (by rw [← List.drop_drop, h2]; rfl) h3 rfl rfl (fun f' a b => k1 f' a ?_) (fun f' a => k2 f' ?_))
            · rw [List.all_cons, hq]; exact b
            · rw [List.all_cons, hq]; exact a
          · simp (disch := first | omega | (simp only [List.length_cons, List.length_nil, true_and, and_true, nx_push, nx_put, nx_mark]; done) | (simp only [List.length_cons, List.length_nil, true_and, and_true, nx_push, nx_put, nx_mark]; omega)) only [go_sem, ↓reduceIte, Nat.reduceAdd, Nat.reduceMul, Nat.reduceSub, Int.reduceToNat, UInt8.reduceToNat, Nat.reduceLeDiff, Nat.reduceEqDiff, Nat.sub_zero, Int.add_zero, Int.zero_add, Nat.add_zero, Nat.zero_add, Nat.zero_mul, n1, n2, n3, hc]
            exact atQ 47 rfl (k1 _ rfl (by rw [List.all_cons, plain_of hp n1 n2 n3]; rfl))
@[go_sem] theorem RName_run {s : List UInt8} (hs : s.length ≤ 1000000) : @R S (.f n_entailref1_Name) [.s s] H ⟨K⟩ ↔ K (.b (isName s)) H := by
  refine run_iff fun K h => ?_
  refine run_fn2 rfl rfl ?_
  unfold bd_entailref1_Name
  cases s with
  | nil => simp (disch := first | omega | (simp only [List.length_cons, List.length_nil, true_and, and_true, nx_push, nx_put, nx_mark]; done) | (simp only [List.length_cons, List.length_nil, true_and, and_true, nx_push, nx_put, nx_mark]; omega)) only [go_sem, ↓reduceIte, Nat.reduceAdd, Nat.reduceMul, Nat.reduceSub, Int.reduceToNat, UInt8.reduceToNat, Nat.reduceLeDiff, Nat.reduceEqDiff, Nat.sub_zero, Int.add_zero, Int.zero_add, Nat.add_zero, Nat.zero_add, Nat.zero_mul]; exact kb (by simp [isName]) h
  | cons c r =>
    simp (disch := first | omega | (simp only [List.length_cons, List.length_nil, true_and, and_true, nx_push, nx_put, nx_mark]; done) | (simp only [List.length_cons, List.length_nil, true_and, and_true, nx_push, nx_put, nx_mark]; omega)) only [go_sem, ↓reduceIte, Nat.reduceAdd, Nat.reduceMul, Nat.reduceSub, Int.reduceToNat, UInt8.reduceToNat, Nat.reduceLeDiff, Nat.reduceEqDiff, Nat.sub_zero, Int.add_zero, Int.zero_add, Nat.add_zero, Nat.zero_add, Nat.zero_mul]
    refine grd_dec (fun h2 => ?_) (fun h2 => ?_)
    · simp (disch := first | omega | (simp only [List.length_cons, List.length_nil, true_and, and_true, nx_push, nx_put, nx_mark]; done) | (simp only [List.length_cons, List.length_nil, true_and, and_true, nx_push, nx_put, nx_mark]; omega)) only [go_sem, ↓reduceIte, Nat.reduceAdd, Nat.reduceMul, Nat.reduceSub, Int.reduceToNat, UInt8.reduceToNat, Nat.reduceLeDiff, Nat.reduceEqDiff, Nat.sub_zero, Int.add_zero, Int.zero_add, Nat.add_zero, Nat.zero_add, Nat.zero_mul, h2]
      refine kb ?_ h
      simp only [isName, List.length_cons]; rw [decide_eq_false (by omega)]; simp
    · cases h3 : isFirst c.toNat with
      | true =>
        simp (disch := first | omega | (simp only [List.length_cons, List.length_nil, true_and, and_true, nx_push, nx_put, nx_mark]; done) | (simp only [List.length_cons, List.length_nil, true_and, and_true, nx_push, nx_put, nx_mark]; omega)) only [go_sem, ↓reduceIte, Nat.reduceAdd, Nat.reduceMul, Nat.reduceSub, Int.reduceToNat, UInt8.reduceToNat, Nat.reduceLeDiff, Nat.reduceEqDiff, Nat.sub_zero, Int.add_zero, Int.zero_add, Nat.add_zero, Nat.zero_add, Nat.zero_mul, h2, h3]
        refine atW 47 rfl (RName_loop (c :: r) 0 _ (by omega) rfl (by simp only [List.length_cons]; omega) rfl rfl (fun f' a b => ?_) (fun f' b => ?_))
        · simp (disch := first | omega | (simp only [List.length_cons, List.length_nil, true_and, and_true, nx_push, nx_put, nx_mark]; done) | (simp only [List.length_cons, List.length_nil, true_and, and_true, nx_push, nx_put, nx_mark]; omega)) only [go_sem, ↓reduceIte, Nat.reduceAdd, Nat.reduceMul, Nat.reduceSub, Int.reduceToNat, UInt8.reduceToNat, Nat.reduceLeDiff, Nat.reduceEqDiff, Nat.sub_zero, Int.add_zero, Int.zero_add, Nat.add_zero, Nat.zero_add, Nat.zero_mul, a]
          refine kb ?_ h
          simp only [isName, b, Bool.and_false]
        · simp (disch := first | omega | (simp only [List.length_cons, List.length_nil, true_and, and_true, nx_push, nx_put, nx_mark]; done) | (simp only [List.length_cons, List.length_nil, true_and, and_true, nx_push, nx_put, nx_mark]; omega)) only [go_sem, ↓reduceIte, Nat.reduceAdd, Nat.reduceMul, Nat.reduceSub, Int.reduceToNat, UInt8.reduceToNat, Nat.reduceLeDiff, Nat.reduceEqDiff, Nat.sub_zero, Int.add_zero, Int.zero_add, Nat.add_zero, Nat.zero_add, Nat.zero_mul]
          refine kb ?_ h
          simp only [isName, b, h3, List.length_cons]; simp only [Bool.true_and, Bool.and_true]; rw [decide_eq_true (by omega)]
      | false =>
        simp (disch := first | omega | (simp only [List.length_cons, List.length_nil, true_and, and_true, nx_push, nx_put, nx_mark]; done) | (simp only [List.length_cons, List.length_nil, true_and, and_true, nx_push, nx_put, nx_mark]; omega)) only [go_sem, ↓reduceIte, Nat.reduceAdd, Nat.reduceMul, Nat.reduceSub, Int.reduceToNat, UInt8.reduceToNat, Nat.reduceLeDiff, Nat.reduceEqDiff, Nat.sub_zero, Int.add_zero, Int.zero_add, Nat.add_zero, Nat.zero_add, Nat.zero_mul, h2, h3]
        exact kb (by simp [isName, h3]) h
/-- Any text, no longer than so. -/
def anyS (n : Nat) (K : AV → Mem → Prop) (H : Mem) : Prop := ∀ s : List UInt8, s.length ≤ n → K (.s s) H
theorem and_lt (a : Int) (m : Nat) (hm : m < 2147483648) : ∃ r : Nat, r ≤ m ∧ IntKind.i64.wrap (((BitVec.ofInt (IntKind.bits .i64) a &&& BitVec.ofInt (IntKind.bits .i64) (m : Int)).toNat : Nat) : Int) = (r : Int) := by
  have h : (BitVec.ofInt (IntKind.bits .i64) a &&& BitVec.ofInt (IntKind.bits .i64) (m : Int)).toNat ≤ m := by
    rw [BitVec.toNat_and]
    refine Nat.le_trans Nat.and_le_right ?_
    simp only [BitVec.toNat_ofInt]
    have e : ((m : Int) % ((2 ^ (IntKind.bits .i64) : Nat) : Int)) = m := Int.emod_eq_of_lt (by omega) (by show (m : Int) < ((2 ^ 64 : Nat) : Int); omega)
    rw [e]; simp
  refine ⟨_, h, ?_⟩
  exact wrap_i64 (by omega) (by omega)
theorem and_3 (a : Int) (m : Nat) (z : Int) (hz : z = m) (hm : m < 2147483648) : ∃ r : Nat, r ≤ m ∧ binA .and .int (.i .i64 a) (.i .i64 z) = some (.i .i64 (r : Int)) := by
  subst hz
  obtain ⟨r, hr, e⟩ := and_lt a m hm
  exact ⟨r, hr, by rw [bin_and]; exact congrArg (fun z => some (AV.i .i64 z)) e⟩
theorem Nm_run {a : Int} (hw : Wf H) (h : ∀ H' s, Ext H.next H H' → s.length ≤ 3 → K (.s s) H') : @R S (.f n_entaillaw1_Nm) [.i .i64 a] H ⟨K⟩ := by
  refine run_fn2 rfl rfl ?_
  unfold bd_entaillaw1_Nm
  obtain ⟨r, hr, e⟩ := and_3 a 7 7 rfl (by omega)
  have x : ∀ o, Ext H.next H (H.push o) := fun o => (Ext.refl hw).push _ (Nat.le_refl _)
  simp (disch := first | omega | (simp only [List.length_cons, List.length_nil, true_and, and_true, nx_push, nx_put, nx_mark]; done) | (simp only [List.length_cons, List.length_nil, true_and, and_true, nx_push, nx_put, nx_mark]; omega)) only [go_sem, ↓reduceIte, Nat.reduceAdd, Nat.reduceMul, Nat.reduceSub, Int.reduceToNat, UInt8.reduceToNat, Nat.reduceLeDiff, Nat.reduceEqDiff, Nat.sub_zero, Int.add_zero, Int.zero_add, Nat.add_zero, Nat.zero_add, Nat.zero_mul, e]
  obtain rfl | rfl | rfl | rfl | rfl | rfl | rfl | rfl : r = 0 ∨ r = 1 ∨ r = 2 ∨ r = 3 ∨ r = 4 ∨ r = 5 ∨ r = 6 ∨ r = 7 := by omega
  all_goals
    simp (disch := first | omega | (simp only [List.length_cons, List.length_nil, true_and, and_true, nx_push, nx_put, nx_mark]; done) | (simp only [List.length_cons, List.length_nil, true_and, and_true, nx_push, nx_put, nx_mark]; omega)) only [go_sem, ↓reduceIte, Nat.reduceAdd, Nat.reduceMul, Nat.reduceSub, Int.reduceToNat, UInt8.reduceToNat, Nat.reduceLeDiff, Nat.reduceEqDiff, Nat.sub_zero, Int.add_zero, Int.zero_add, Nat.add_zero, Nat.zero_add, Nat.zero_mul]
    exact h _ _ (x _) (by decide)
end Go.Fw.Ro
end
section
/- The verifier's lines. -/
namespace Go.Fw.Ro
open Go Go.Fw Go.Fw.Sys
set_option maxRecDepth 100000
variable {H : Mem} {K : AV → Mem → Prop}
theorem shr_any (a : Int) (k : Nat) (z : Int) (hz : z = k) : ∃ b : Int, binA .shr .int (.i .i64 a) (.i .u64 z) = some (.i .i64 b) := by
  subst hz
  rw [bin_shr, if_neg (by omega)]
  exact ⟨_, rfl⟩
theorem rem_3 (r : Nat) (m : Nat) (z : Int) (hz : z = m) (hm : 0 < m) (hr : r ≤ 1000) : ∃ q : Nat, q < m ∧ binA .rem .int (.i .i64 (r : Int)) (.i .i64 z) = some (.i .i64 (q : Int)) := by
  subst hz
  refine ⟨r % m, Nat.mod_lt _ hm, ?_⟩
  have h0 : ((m : Int) = 0) = False := by simp; omega
  have e2 : (r : Int).tmod (m : Int) = ((r % m : Nat) : Int) := rfl
  simp (disch := first | omega | (simp only [List.length_cons, List.length_nil, true_and, and_true, nx_push, nx_put, nx_mark]; done) | (simp only [List.length_cons, List.length_nil, true_and, and_true, nx_push, nx_put, nx_mark]; omega)) only [go_sem, ↓reduceIte, Nat.reduceAdd, Nat.reduceMul, Nat.reduceSub, Int.reduceToNat, UInt8.reduceToNat, Nat.reduceLeDiff, Nat.reduceEqDiff, Nat.sub_zero, Int.add_zero, Int.zero_add, Nat.add_zero, Nat.zero_add, Nat.zero_mul, h0, e2]
theorem Line_run {a : Int} (hw : Wf H) (h : ∀ H' s, Ext H.next H H' → s.length ≤ 40 → K (.s s) H') : @R S (.f n_entaillaw13_Line) [.i .i64 a] H ⟨K⟩ := by
  refine run_fn2 rfl rfl ?_
  unfold bd_entaillaw13_Line
  obtain ⟨b8, s8⟩ := shr_any a 8 8 rfl
  obtain ⟨r8, h8, e8⟩ := and_3 b8 255 255 rfl (by omega)
  obtain ⟨q8, g8, m8⟩ := rem_3 r8 3 3 rfl (by omega) (by omega)
  obtain ⟨b20, s20⟩ := shr_any a 20 20 rfl
  obtain ⟨b16, s16⟩ := shr_any a 16 16 rfl
  obtain ⟨r16, h16, e16⟩ := and_3 b16 3 3 rfl (by omega)
  obtain ⟨b18, s18⟩ := shr_any a 18 18 rfl
  obtain ⟨r18, h18, e18⟩ := and_3 b18 3 3 rfl (by omega)
  simp (disch := first | omega | (simp only [List.length_cons, List.length_nil, true_and, and_true, nx_push, nx_put, nx_mark]; done) | (simp only [List.length_cons, List.length_nil, true_and, and_true, nx_push, nx_put, nx_mark]; omega)) only [go_sem, ↓reduceIte, Nat.reduceAdd, Nat.reduceMul, Nat.reduceSub, Int.reduceToNat, UInt8.reduceToNat, Nat.reduceLeDiff, Nat.reduceEqDiff, Nat.sub_zero, Int.add_zero, Int.zero_add, Nat.add_zero, Nat.zero_add, Nat.zero_mul]
  refine w_dregB [] 3 rfl rfl rfl rfl ?_
  obtain ⟨u, lu, ju⟩ : ∃ u : List UInt8, u.length ≤ 1 ∧ [AV.s [117], AV.s [118], AV.s [119]][q8 * 1]? = some (.s u) := by
    obtain rfl | rfl | rfl : q8 = 0 ∨ q8 = 1 ∨ q8 = 2 := by omega
    all_goals exact ⟨_, by decide, rfl⟩
  obtain ⟨v, lv, jv⟩ : ∃ u : List UInt8, u.length ≤ 1 ∧ [AV.s [114], AV.s [115], AV.s [116], AV.s [113]][r16 * 1]? = some (.s u) := by
    obtain rfl | rfl | rfl | rfl : r16 = 0 ∨ r16 = 1 ∨ r16 = 2 ∨ r16 = 3 := by omega
    all_goals exact ⟨_, by decide, rfl⟩
  obtain ⟨w, lw, jw⟩ : ∃ u : List UInt8, u.length ≤ 1 ∧ [AV.s [114], AV.s [115], AV.s [116], AV.s [113]][r18 * 1]? = some (.s u) := by
    obtain rfl | rfl | rfl | rfl : r18 = 0 ∨ r18 = 1 ∨ r18 = 2 ∨ r18 = 3 := by omega
    all_goals exact ⟨_, by decide, rfl⟩
  simp (disch := first | omega | (simp only [List.length_cons, List.length_nil, true_and, and_true, nx_push, nx_put, nx_mark]; done) | (simp only [List.length_cons, List.length_nil, true_and, and_true, nx_push, nx_put, nx_mark]; omega)) only [go_sem, ↓reduceIte, Nat.reduceAdd, Nat.reduceMul, Nat.reduceSub, Int.reduceToNat, UInt8.reduceToNat, Nat.reduceLeDiff, Nat.reduceEqDiff, Nat.sub_zero, Int.add_zero, Int.zero_add, Nat.add_zero, Nat.zero_add, Nat.zero_mul, s8, e8, m8, s16, e16, s18, e18, ju, jv, jw, s20]
  have d1 : H.get H.next = .dead := hw.far (Nat.le_refl _)
  have d2 : H.get (H.next + 1) = .dead := hw.far (by omega)
  have d3 : H.get (H.next + 1 + 1) = .dead := hw.far (by omega)
  refine ⟨by rw [d1, d2, d3]; rfl, ?_⟩
  obtain ⟨r0, h0, e0⟩ := and_3 a 255 255 rfl (by omega)
  obtain ⟨q0, g0, m0⟩ := rem_3 r0 24 24 rfl (by omega) (by omega)
  obtain ⟨b23, s23⟩ := shr_any a 23 23 rfl
  obtain ⟨r23, h23, e23⟩ := and_3 b23 1 1 rfl (by omega)
  obtain ⟨b24, s24⟩ := shr_any a 24 24 rfl
  obtain ⟨r24, h24, e24⟩ := and_3 b24 3 3 rfl (by omega)
  obtain ⟨r87, h87, e87⟩ := and_3 b8 7 7 rfl (by omega)
  obtain ⟨y1, ly1, jy1⟩ : ∃ u : List UInt8, u.length ≤ 4 ∧ [AV.s [114, 101, 97, 100], AV.s [100, 111]][r23 * 1]? = some (.s u) := by
    obtain rfl | rfl : r23 = 0 ∨ r23 = 1 := by omega
    all_goals exact ⟨_, by decide, rfl⟩
  obtain ⟨y2, ly2, jy2⟩ : ∃ u : List UInt8, u.length ≤ 1 ∧ [AV.s [50], AV.s [51]][r23 * 1]? = some (.s u) := by
    obtain rfl | rfl : r23 = 0 ∨ r23 = 1 := by omega
    all_goals exact ⟨_, by decide, rfl⟩
  obtain ⟨y3, ly3, jy3⟩ : ∃ u : List UInt8, u.length ≤ 1 ∧ [AV.s [114], AV.s [115], AV.s [116], AV.s [113]][r24 * 1]? = some (.s u) := by
    obtain rfl | rfl | rfl | rfl : r24 = 0 ∨ r24 = 1 ∨ r24 = 2 ∨ r24 = 3 := by omega
    all_goals exact ⟨_, by decide, rfl⟩
  obtain ⟨y4, ly4, jy4⟩ : ∃ u : List UInt8, u.length ≤ 20 ∧ [AV.s [117, 115, 101, 114], AV.s [114, 111, 108, 101, 32, 65], AV.s [115, 115, 100, 32, 97, 32, 49, 32, 114, 32, 115], AV.s [100, 115, 100, 32, 97, 32, 48, 50, 32, 114, 32, 115], AV.s [103, 114, 97, 110, 116, 32, 114], AV.s [105, 110, 104, 101, 114, 105, 116, 32, 114, 32, 115, 32, 116], AV.s [117, 115, 101, 114, 32, 97, 32, 98], AV.s [115, 101, 115, 115, 105, 111, 110, 32, 97]][r87 * 1]? = some (.s u) := by
    obtain rfl | rfl | rfl | rfl | rfl | rfl | rfl | rfl : r87 = 0 ∨ r87 = 1 ∨ r87 = 2 ∨ r87 = 3 ∨ r87 = 4 ∨ r87 = 5 ∨ r87 = 6 ∨ r87 = 7 := by omega
    all_goals exact ⟨_, by decide, rfl⟩
  generalize hH1 : (((more (H.mark []) 3).put H.next (AO.mem [AV.s [117], AV.s [118], AV.s [119]] 1 ty_string true 0)).put (H.next + 1) (AO.mem [AV.s [114], AV.s [115], AV.s [116], AV.s [113]] 1 ty_string true 0)).put (H.next + 1 + 1) (AO.mem [AV.s [114], AV.s [115], AV.s [116], AV.s [113]] 1 ty_string true 0) = H1
  have hm3 : Ext H.next (H.mark []) (more (H.mark []) 3) := ⟨by simp only [nx_more, nx_mark]; omega, rfl, fun _ _ => rfl, (hw.mark []).more⟩
  have hE1 : Ext H.next (H.mark []) H1 := by rw [← hH1]; exact ((hm3.put (Nat.le_refl _) (by simp only [nx_more, nx_mark]; omega) _).put (by first | omega | (simp only [nx_push, nx_put, nx_mark]; done) | (simp only [nx_push, nx_put, nx_mark]; omega)) (by simp only [nx_more, nx_put, nx_mark]; omega) _).put (by first | omega | (simp only [nx_push, nx_put, nx_mark]; done) | (simp only [nx_push, nx_put, nx_mark]; omega)) (by simp only [nx_more, nx_put, nx_mark]; omega) _
  have n1 := hE1.next
  simp only [nx_mark] at n1
  clear hH1
  refine Nm_run hE1.wf (fun H2 o x2 lo => ?_)
  have hE2 := hE1.trans x2 n1
  have hm2 : H2.marks = [] := hE2.marks
  have n2 := hE2.next
  simp only [nx_mark] at n2
  have e1 : Ext H.next H (H2.mark H.marks) := Ext.mark hE2
  simp (disch := first | omega | (simp only [List.length_cons, List.length_nil, true_and, and_true, nx_push, nx_put, nx_mark]; done) | (simp only [List.length_cons, List.length_nil, true_and, and_true, nx_push, nx_put, nx_mark]; omega)) only [go_sem, ↓reduceIte, Nat.reduceAdd, Nat.reduceMul, Nat.reduceSub, Int.reduceToNat, UInt8.reduceToNat, Nat.reduceLeDiff, Nat.reduceEqDiff, Nat.sub_zero, Int.add_zero, Int.zero_add, Nat.add_zero, Nat.zero_add, Nat.zero_mul, e0, m0]
  obtain rfl | rfl | rfl | rfl | rfl | rfl | rfl | rfl | rfl | rfl | rfl | rfl | rfl | rfl | rfl | rfl | rfl | rfl | rfl | rfl | rfl | rfl | rfl | rfl : q0 = 0 ∨ q0 = 1 ∨ q0 = 2 ∨ q0 = 3 ∨ q0 = 4 ∨ q0 = 5 ∨ q0 = 6 ∨ q0 = 7 ∨ q0 = 8 ∨ q0 = 9 ∨ q0 = 10 ∨ q0 = 11 ∨ q0 = 12 ∨ q0 = 13 ∨ q0 = 14 ∨ q0 = 15 ∨ q0 = 16 ∨ q0 = 17 ∨ q0 = 18 ∨ q0 = 19 ∨ q0 = 20 ∨ q0 = 21 ∨ q0 = 22 ∨ q0 = 23 := by omega
  all_goals simp (disch := first | omega | (simp only [List.length_cons, List.length_nil, true_and, and_true, nx_push, nx_put, nx_mark]; done) | (simp only [List.length_cons, List.length_nil, true_and, and_true, nx_push, nx_put, nx_mark]; omega)) only [go_sem, ↓reduceIte, Nat.reduceAdd, Nat.reduceMul, Nat.reduceSub, Int.reduceToNat, UInt8.reduceToNat, Nat.reduceLeDiff, Nat.reduceEqDiff, Nat.sub_zero, Int.add_zero, Int.zero_add, Nat.add_zero, Nat.zero_add, Nat.zero_mul, hm2, s23, e23, jy1, s24, e24, s8, e87, jy4, List.length_append, List.length_cons, List.length_nil]
  all_goals try exact h _ _ e1 (by first | omega | (simp only [List.length_append, List.length_cons, List.length_nil]; omega))
  all_goals try exact h _ _ (e1.push _ (by simp only [nx_mark]; omega)) (by first | omega | (simp only [List.length_append, List.length_cons, List.length_nil]; omega))
  refine w_dregB [] 2 rfl rfl rfl rfl ?_
  simp (disch := first | omega | (simp only [List.length_cons, List.length_nil, true_and, and_true, nx_push, nx_put, nx_mark]; done) | (simp only [List.length_cons, List.length_nil, true_and, and_true, nx_push, nx_put, nx_mark]; omega)) only [go_sem, ↓reduceIte, Nat.reduceAdd, Nat.reduceMul, Nat.reduceSub, Int.reduceToNat, UInt8.reduceToNat, Nat.reduceLeDiff, Nat.reduceEqDiff, Nat.sub_zero, Int.add_zero, Int.zero_add, Nat.add_zero, Nat.zero_add, Nat.zero_mul, hm2, s23, e23, jy2, s24, e24, jy3, List.length_append, List.length_cons, List.length_nil]
  have d4 : H2.get H2.next = .dead := hE2.wf.far (Nat.le_refl _)
  have d5 : H2.get (H2.next + 1) = .dead := hE2.wf.far (by omega)
  refine ⟨by rw [d4, d5]; rfl, ?_⟩
  have em : Ext H.next H ((more H2 2).mark H.marks) := ⟨Nat.le_trans n2 (by simp only [nx_more, nx_mark]; omega), rfl, e1.get, hE2.wf.more⟩
  exact h _ _ ((em.put (by omega) (by simp only [nx_more, nx_mark]; omega) _).put (by omega) (by simp only [nx_more, nx_put, nx_mark]; omega) _) (by simp only [List.length_append, List.length_cons, List.length_nil]; omega)
/-! ### A file's text -/
def Ri : Gt → List AV → Int → Prop := fun _ c x => c = [.i .i64 x]
theorem Ri_mono : Mono Ri := fun _ _ _ _ _ h => h
end Go.Fw.Ro
end
section
/- A file's text. -/
namespace Go.Fw.Ro
open Go Go.Fw Go.Fw.Sys
set_option maxRecDepth 100000
variable {H : Mem} {K : AV → Mem → Prop}
theorem File_loop {v : AV} {xs : List Int} {wh : Bool} {H0 : Mem} {Q : Ex → Tr → Mem → Prop} (w0 : Wf H0) (hv : SlR 1 Ri H0.get v xs) : ∀ (n i : Nat) (f : Nat → AV) (H : Mem) (s : List UInt8), i + n = 31 → Ext H0.next H0 H → s.length ≤ 60 + 41 * i → f 0 = v → f 1 = .b wh → f 5 = .s s → f 6 = .i .i64 i →
    (∀ f' H' s', f' 5 = .s s' → s'.length ≤ 1400 → Ext H0.next H0 H' → Q (.ex 0) (trO 45 f') H') → @W S false (.loop lp_entaillaw13_File_0) (trO 45 f) H ⟨Q⟩ := by
  intro n
  have l1 := hv.len
  have stop : ∀ (i : Nat) (f : Nat → AV) (H : Mem) (s : List UInt8), i ≤ 31 → ¬ (i < xs.length ∧ i < 30) → Ext H0.next H0 H → s.length ≤ 60 + 41 * i → f 0 = v → f 1 = .b wh → f 5 = .s s → f 6 = .i .i64 i →
      (∀ f' H' s', f' 5 = .s s' → s'.length ≤ 1400 → Ext H0.next H0 H' → Q (.ex 0) (trO 45 f') H') → @W S false (.loop lp_entaillaw13_File_0) (trO 45 f) H ⟨Q⟩ := by
    intro i f H s hi hh hE hs f0 f1 f5 f6 k
    rw [w_loop]
    unfold lp_entaillaw13_File_0
    by_cases h1 : i < xs.length
    · have h2 : ¬ i < 30 := fun h2 => hh ⟨h1, h2⟩
      simp (disch := first | omega | (simp only [List.length_cons, List.length_nil, true_and, and_true, nx_push, nx_put, nx_mark]; done) | (simp only [List.length_cons, List.length_nil, true_and, and_true, nx_push, nx_put, nx_mark]; omega)) only [go_sem, ↓reduceIte, Nat.reduceAdd, Nat.reduceMul, Nat.reduceSub, Int.reduceToNat, UInt8.reduceToNat, Nat.reduceLeDiff, Nat.reduceEqDiff, Nat.sub_zero, Int.add_zero, Int.zero_add, Nat.add_zero, Nat.zero_add, Nat.zero_mul, f0, f1, f5, f6, l1]
      exact atQ 45 rfl (k _ H s rfl (by omega) hE)
    · simp (disch := first | omega | (simp only [List.length_cons, List.length_nil, true_and, and_true, nx_push, nx_put, nx_mark]; done) | (simp only [List.length_cons, List.length_nil, true_and, and_true, nx_push, nx_put, nx_mark]; omega)) only [go_sem, ↓reduceIte, Nat.reduceAdd, Nat.reduceMul, Nat.reduceSub, Int.reduceToNat, UInt8.reduceToNat, Nat.reduceLeDiff, Nat.reduceEqDiff, Nat.sub_zero, Int.add_zero, Int.zero_add, Nat.add_zero, Nat.zero_add, Nat.zero_mul, f0, f1, f5, f6, l1]
      exact atQ 45 rfl (k _ H s rfl (by omega) hE)
  induction n with
  | zero =>
    intro i f H s hi hE hs f0 f1 f5 f6 k
    exact stop i f H s (by omega) (by omega) hE hs f0 f1 f5 f6 k
  | succ n ih =>
    intro i f H s hi hE hs f0 f1 f5 f6 k
    by_cases hh : i < xs.length ∧ i < 30
    · obtain ⟨hlt, h30⟩ := hh
      have hx : xs[i]? = some xs[i] := List.getElem?_eq_getElem hlt
      generalize xs[i] = x at hx
      obtain ⟨id, p, c, y1, y2, y3, y4, y5, y6⟩ := (hv.mono Ri_mono (le_up hE w0 (Nat.le_refl _))).at_ hx
      simp only [Ri] at y2
      subst y2
      have y7 : ldO (H.get id) false 1 p = some (.i .i64 x) := y3 0 (by omega)
      obtain ⟨r0, h0, e0⟩ := and_3 x 255 255 rfl (by omega)
      obtain ⟨q0, g0, m0⟩ := rem_3 r0 24 24 rfl (by omega) (by omega)
      obtain ⟨b11, s11⟩ := shr_any x 11 11 rfl
      obtain ⟨r1, h1, e1⟩ := and_3 b11 3 3 rfl (by omega)
      have n0 := hE.next
      rw [w_loop]
      unfold lp_entaillaw13_File_0
      cases wh with
      | false =>
        simp (disch := first | omega | (simp only [List.length_cons, List.length_nil, true_and, and_true, nx_push, nx_put, nx_mark]; done) | (simp only [List.length_cons, List.length_nil, true_and, and_true, nx_push, nx_put, nx_mark]; omega)) only [go_sem, ↓reduceIte, Nat.reduceAdd, Nat.reduceMul, Nat.reduceSub, Int.reduceToNat, UInt8.reduceToNat, Nat.reduceLeDiff, Nat.reduceEqDiff, Nat.sub_zero, Int.add_zero, Int.zero_add, Nat.add_zero, Nat.zero_add, Nat.zero_mul, f0, f1, f5, f6, l1, y1, y7]
        refine Line_run hE.wf (fun H2 o x2 lo => ?_)
        have hE2 := hE.trans x2 n0
        simp (disch := first | omega | (simp only [List.length_cons, List.length_nil, true_and, and_true, nx_push, nx_put, nx_mark]; done) | (simp only [List.length_cons, List.length_nil, true_and, and_true, nx_push, nx_put, nx_mark]; omega)) only [go_sem, ↓reduceIte, Nat.reduceAdd, Nat.reduceMul, Nat.reduceSub, Int.reduceToNat, UInt8.reduceToNat, Nat.reduceLeDiff, Nat.reduceEqDiff, Nat.sub_zero, Int.add_zero, Int.zero_add, Nat.add_zero, Nat.zero_add, Nat.zero_mul, List.length_append, List.length_cons, List.length_nil]
        refine atW 45 rfl (ih (i + 1) _ H2 _ (by omega) hE2 (by simp only [List.length_append, List.length_cons, List.length_nil]; omega) rfl rfl rfl rfl k)
      | true =>
        by_cases c1 : q0 = 19 ∧ 0 < r1
        · obtain ⟨rfl, c2⟩ := c1
          simp (disch := first | omega | (simp only [List.length_cons, List.length_nil, true_and, and_true, nx_push, nx_put, nx_mark]; done) | (simp only [List.length_cons, List.length_nil, true_and, and_true, nx_push, nx_put, nx_mark]; omega)) only [go_sem, ↓reduceIte, Nat.reduceAdd, Nat.reduceMul, Nat.reduceSub, Int.reduceToNat, UInt8.reduceToNat, Nat.reduceLeDiff, Nat.reduceEqDiff, Nat.sub_zero, Int.add_zero, Int.zero_add, Nat.add_zero, Nat.zero_add, Nat.zero_mul, f0, f1, f5, f6, l1, y1, y7, e0, m0, s11, e1]
          refine atW 45 rfl (ih (i + 1) _ H s (by omega) hE (by omega) rfl rfl rfl rfl k)
        · by_cases c2 : q0 = 19
          · have c3 : ¬ 0 < r1 := fun h => c1 ⟨c2, h⟩
            subst c2
            simp (disch := first | omega | (simp only [List.length_cons, List.length_nil, true_and, and_true, nx_push, nx_put, nx_mark]; done) | (simp only [List.length_cons, List.length_nil, true_and, and_true, nx_push, nx_put, nx_mark]; omega)) only [go_sem, ↓reduceIte, Nat.reduceAdd, Nat.reduceMul, Nat.reduceSub, Int.reduceToNat, UInt8.reduceToNat, Nat.reduceLeDiff, Nat.reduceEqDiff, Nat.sub_zero, Int.add_zero, Int.zero_add, Nat.add_zero, Nat.zero_add, Nat.zero_mul, f0, f1, f5, f6, l1, y1, y7, e0, m0, s11, e1]
            refine Line_run hE.wf (fun H2 o x2 lo => ?_)
            have hE2 := hE.trans x2 n0
            simp (disch := first | omega | (simp only [List.length_cons, List.length_nil, true_and, and_true, nx_push, nx_put, nx_mark]; done) | (simp only [List.length_cons, List.length_nil, true_and, and_true, nx_push, nx_put, nx_mark]; omega)) only [go_sem, ↓reduceIte, Nat.reduceAdd, Nat.reduceMul, Nat.reduceSub, Int.reduceToNat, UInt8.reduceToNat, Nat.reduceLeDiff, Nat.reduceEqDiff, Nat.sub_zero, Int.add_zero, Int.zero_add, Nat.add_zero, Nat.zero_add, Nat.zero_mul, List.length_append, List.length_cons, List.length_nil]
            refine atW 45 rfl (ih (i + 1) _ H2 _ (by omega) hE2 (by simp only [List.length_append, List.length_cons, List.length_nil]; omega) rfl rfl rfl rfl k)
          · simp (disch := first | omega | (simp only [List.length_cons, List.length_nil, true_and, and_true, nx_push, nx_put, nx_mark]; done) | (simp only [List.length_cons, List.length_nil, true_and, and_true, nx_push, nx_put, nx_mark]; omega)) only [go_sem, ↓reduceIte, Nat.reduceAdd, Nat.reduceMul, Nat.reduceSub, Int.reduceToNat, UInt8.reduceToNat, Nat.reduceLeDiff, Nat.reduceEqDiff, Nat.sub_zero, Int.add_zero, Int.zero_add, Nat.add_zero, Nat.zero_add, Nat.zero_mul, f0, f1, f5, f6, l1, y1, y7, e0, m0, s11, e1]
            refine Line_run hE.wf (fun H2 o x2 lo => ?_)
            have hE2 := hE.trans x2 n0
            simp (disch := first | omega | (simp only [List.length_cons, List.length_nil, true_and, and_true, nx_push, nx_put, nx_mark]; done) | (simp only [List.length_cons, List.length_nil, true_and, and_true, nx_push, nx_put, nx_mark]; omega)) only [go_sem, ↓reduceIte, Nat.reduceAdd, Nat.reduceMul, Nat.reduceSub, Int.reduceToNat, UInt8.reduceToNat, Nat.reduceLeDiff, Nat.reduceEqDiff, Nat.sub_zero, Int.add_zero, Int.zero_add, Nat.add_zero, Nat.zero_add, Nat.zero_mul, List.length_append, List.length_cons, List.length_nil]
            refine atW 45 rfl (ih (i + 1) _ H2 _ (by omega) hE2 (by simp only [List.length_append, List.length_cons, List.length_nil]; omega) rfl rfl rfl rfl k)
    · exact stop i f H s (by omega) hh hE hs f0 f1 f5 f6 k
theorem File_run {v : AV} {xs : List Int} {wh : Bool} (hw : Wf H) (hv : SlR 1 Ri H.get v xs) (h : ∀ H' s, Ext H.next H H' → s.length ≤ 1400 → K (.s s) H') : @R S (.f n_entaillaw13_File) [v, .b wh] H ⟨K⟩ := by
  refine run_fn2 rfl rfl ?_
  unfold bd_entaillaw13_File
  cases wh
  all_goals
    simp (disch := first | omega | (simp only [List.length_cons, List.length_nil, true_and, and_true, nx_push, nx_put, nx_mark]; done) | (simp only [List.length_cons, List.length_nil, true_and, and_true, nx_push, nx_put, nx_mark]; omega)) only [go_sem, ↓reduceIte, Nat.reduceAdd, Nat.reduceMul, Nat.reduceSub, Int.reduceToNat, UInt8.reduceToNat, Nat.reduceLeDiff, Nat.reduceEqDiff, Nat.sub_zero, Int.add_zero, Int.zero_add, Nat.add_zero, Nat.zero_add, Nat.zero_mul]
    refine atW 45 rfl (File_loop (H0 := H.mark []) hw hv 31 0 _ (H.mark []) _ rfl (Ext.refl (H := H.mark []) hw) (by decide) rfl rfl rfl rfl (fun f' H' s f5 ls hE => ?_))
    have hm : H'.marks = [] := hE.marks
    simp (disch := first | omega | (simp only [List.length_cons, List.length_nil, true_and, and_true, nx_push, nx_put, nx_mark]; done) | (simp only [List.length_cons, List.length_nil, true_and, and_true, nx_push, nx_put, nx_mark]; omega)) only [go_sem, ↓reduceIte, Nat.reduceAdd, Nat.reduceMul, Nat.reduceSub, Int.reduceToNat, UInt8.reduceToNat, Nat.reduceLeDiff, Nat.reduceEqDiff, Nat.sub_zero, Int.add_zero, Int.zero_add, Nat.add_zero, Nat.zero_add, Nat.zero_mul, f5, hm]
    exact h _ _ (Ext.mark hE) ls
end Go.Fw.Ro
end
section
/- RoleBack. -/
namespace Go.Fw.Ro
open Go Go.Fw Go.Fw.Sys
set_option maxRecDepth 100000
variable {H : Mem} {K : AV → Mem → Prop}
theorem wp_mono {rd : Bool} {c : AC} {env : Tr} {H : Mem} {Q Q' : Ex → Tr → Mem → Prop} (h : S.Wp rd c env H Q) (k : ∀ e env H, Q e env H → Q' e env H) : S.Wp rd c env H Q' := by
  obtain ⟨n, e, env', H', hv, q⟩ := h
  exact ⟨n, e, env', H', hv, k _ _ _ q⟩
theorem w_cut3 {rd : Bool} {A B C D : AC} {env : Tr} {H : Mem} {Q Qz : Ex → Tr → Mem → Prop} (h1 : @W S rd (.seq A (.seq B C)) env H ⟨Qz⟩) (h2 : ∀ e env H, Qz e env H → S.nxt rd D Q e env H) : @W S rd (.seq A (.seq B (.seq C D))) env H ⟨Q⟩ := by
  have h1 : S.Wp rd (.seq A (.seq B C)) env H Qz := h1
  show S.Wp rd _ env H Q
  rw [Sys.wp_seq] at h1 ⊢
  refine wp_mono h1 fun e env H q => ?_
  cases e with
  | ex i => exact h2 _ _ _ q
  | rt => exact h2 _ _ _ q
  | nm =>
    have q : S.Wp rd (.seq B C) env H Qz := q
    show S.Wp rd (.seq B (.seq C D)) env H Q
    rw [Sys.wp_seq] at q ⊢
    refine wp_mono q fun e env H q => ?_
    cases e with
    | ex i => exact h2 _ _ _ q
    | rt => exact h2 _ _ _ q
    | nm =>
      have q : S.Wp rd C env H Qz := q
      show S.Wp rd (.seq C D) env H Q
      rw [Sys.wp_seq]
      exact wp_mono q fun e env H q => h2 _ _ _ q
theorem sameF_symm (x y : FactT) : sameF x y = sameF y x := by simp only [sameF, eq_comm]
theorem eqFs_symm : ∀ xs ys : List FactT, eqFs xs ys = eqFs ys xs
  | [], [] => rfl
  | x :: r, y :: t => by simp only [eqFs, sameF_symm x y, eqFs_symm r t]
  | [], _ :: _ => rfl
  | _ :: _, [] => rfl
def allT : List FactT := [fact0, ⟨9, [97], [], [], 0, [], 0⟩, ⟨1, [], [], [], 0, [], 0⟩, ⟨1, [65], [], [], 0, [], 0⟩, ⟨1, [97], [98], [], 0, [], 0⟩, ⟨2, [97], [], [], 1, [], 0⟩, ⟨3, [97], [], [], 0, [], 0⟩, ⟨5, [97], [98], [], 0, [], 0⟩, ⟨6, [97], [], [], 2, [[114]], 0⟩,
  ⟨6, [97], [], [], 0, [[114], [115]], 0⟩, ⟨7, [97], [], [], 100, [[114], [115]], 0⟩, ⟨8, [97], [], [], 0, [], 0⟩, ⟨8, [97], [98], [], 0, [[114, 32, 115]], 0⟩, ⟨4, [97], [98], [], 0, [[99]], 0⟩]
theorem all_text : ∀ x ∈ allT, textF [x] = ([], false) ∧ (0 ≤ x.N ∧ x.N ≤ 1000) ∧ (toldF x).length ≤ 1000000 ∧ x.L.length ≤ 1000000 := by decide +kernel
theorem oneR {G : Gt} {id t : Nat} {x : FactT} {u : AV} (hget : G id = .mem (factC x u) 7 t true 0) (hu : SlR 1 Rs G u x.L) : SlR 7 Rfact G (.sl id 0 1 (some 1)) [x] :=
  .inr ⟨id, 0, some 1, _, t, true, 0, rfl, hget, fun c hc => by cases hc; exact Nat.le_refl _, ⟨by simp [factC], fun j y hy => by
    cases j with
    | zero => simp at hy; subst hy; exact ⟨u, by simp [factC], hu⟩
    | succ j => simp at hy⟩⟩
theorem sR {G : Gt} {id t : Nat} {l : List (List UInt8)} (hget : G id = .mem (l.map AV.s) 1 t true 0) : SlR 1 Rs G (.sl id 0 l.length (some l.length)) l :=
  .inr ⟨id, 0, some l.length, _, t, true, 0, rfl, hget, fun c hc => by cases hc; exact Nat.le_refl _, ⟨by simp, fun j y hy => by
    show _ = _
    have h1 : (l.map AV.s)[j]? = some (.s y) := by rw [List.getElem?_map, hy]; rfl
    obtain ⟨h2, h3⟩ := List.getElem?_eq_some_iff.1 h1
    simp only [Nat.mul_one, Nat.zero_add]
    rw [List.drop_eq_getElem_cons h2, h3]; rfl⟩⟩
def BackQ (a : Int) (H : Mem) : Ex → Tr → Mem → Prop := fun e env H' => e = .nm ∧ ∃ f, env = trO 113 f ∧ f 1 = .i .i64 a ∧ Ext H.next (H.mark []) H'
theorem BackQ.mk {a : Int} {H H' : Mem} {f : Nat → AV} (h1 : f 1 = .i .i64 a) (h2 : Ext H.next (H.mark []) H') : BackQ a H .nm (trO 113 f) H' := ⟨rfl, f, rfl, h1, h2⟩
theorem Back_run {v : AV} {xs : List Int} {a : Int} (hw : Wf H) (hv : SlR 1 Ri H.get v xs) (hg : H.get gPow = .tab powL) (h : ∀ H', K (.b true) H') : @R S (.f n_entaillaw13_RoleBack) [v, .i .i64 a] H ⟨K⟩ := by
  refine run_fn2 rfl rfl ?_
  unfold bd_entaillaw13_RoleBack
  obtain ⟨r1, h1, e1⟩ := and_3 a 1 1 rfl (by omega)
  have hv1 := hv.one
  refine w_cut3 (Qz := BackQ a H) ?_ ?_
  · simp (disch := first | omega | (simp only [List.length_cons, List.length_nil, true_and, and_true, nx_push, nx_put, nx_mark]; done) | (simp only [List.length_cons, List.length_nil, true_and, and_true, nx_push, nx_put, nx_mark]; omega)) only [go_sem, ↓reduceIte, Nat.reduceAdd, Nat.reduceMul, Nat.reduceSub, Int.reduceToNat, UInt8.reduceToNat, Nat.reduceLeDiff, Nat.reduceEqDiff, Nat.sub_zero, Int.add_zero, Int.zero_add, Nat.add_zero, Nat.zero_add, Nat.zero_mul, e1]
    refine File_run (H := H.mark []) hw hv (fun H2 s x2 ls => ?_)
    have n2 := x2.next
    simp only [nx_mark] at n2
    simp (disch := first | omega | (simp only [List.length_cons, List.length_nil, true_and, and_true, nx_push, nx_put, nx_mark]; done) | (simp only [List.length_cons, List.length_nil, true_and, and_true, nx_push, nx_put, nx_mark]; omega)) only [go_sem, ↓reduceIte, Nat.reduceAdd, Nat.reduceMul, Nat.reduceSub, Int.reduceToNat, UInt8.reduceToNat, Nat.reduceLeDiff, Nat.reduceEqDiff, Nat.sub_zero, Int.add_zero, Int.zero_add, Nat.add_zero, Nat.zero_add, Nat.zero_mul]
    refine Parse_run (by omega) x2.wf (fun u H3 x3 hu => ?_)
    have hE3 := x2.trans x3 n2
    have u1 := hu.one
    have n3 := hE3.next
    simp only [nx_mark] at n3
    by_cases he : (parseF s).2.2 = 0
    · obtain ⟨t, b1, b2, b3, b4, b5, b6, b7, b8⟩ := text_back (by omega) he
      simp (disch := first | omega | (simp only [List.length_cons, List.length_nil, true_and, and_true, nx_push, nx_put, nx_mark]; done) | (simp only [List.length_cons, List.length_nil, true_and, and_true, nx_push, nx_put, nx_mark]; omega)) only [go_sem, ↓reduceIte, Nat.reduceAdd, Nat.reduceMul, Nat.reduceSub, Int.reduceToNat, UInt8.reduceToNat, Nat.reduceLeDiff, Nat.reduceEqDiff, Nat.sub_zero, Int.add_zero, Int.zero_add, Nat.add_zero, Nat.zero_add, Nat.zero_mul, u1, he]
      refine Text_run (hu.mono Rfact_mono sn_le) x3.wf (by omega) b7 (fun H4 x4 => ?_)
      rw [b1]
      have hE4 := hE3.trans x4 n3
      have n4 := hE4.next
      simp only [nx_mark] at n4
      simp (disch := first | omega | (simp only [List.length_cons, List.length_nil, true_and, and_true, nx_push, nx_put, nx_mark]; done) | (simp only [List.length_cons, List.length_nil, true_and, and_true, nx_push, nx_put, nx_mark]; omega)) only [go_sem, ↓reduceIte, Nat.reduceAdd, Nat.reduceMul, Nat.reduceSub, Int.reduceToNat, UInt8.reduceToNat, Nat.reduceLeDiff, Nat.reduceEqDiff, Nat.sub_zero, Int.add_zero, Int.zero_add, Nat.add_zero, Nat.zero_add, Nat.zero_mul]
      refine Parse_run (by omega) x4.wf (fun w H5 x5 hw5 => ?_)
      have hE5 := hE4.trans x5 n4
      have w1 := hw5.one
      have n5 := hE5.next
      simp only [nx_mark] at n5
      simp (disch := first | omega | (simp only [List.length_cons, List.length_nil, true_and, and_true, nx_push, nx_put, nx_mark]; done) | (simp only [List.length_cons, List.length_nil, true_and, and_true, nx_push, nx_put, nx_mark]; omega)) only [go_sem, ↓reduceIte, Nat.reduceAdd, Nat.reduceMul, Nat.reduceSub, Int.reduceToNat, UInt8.reduceToNat, Nat.reduceLeDiff, Nat.reduceEqDiff, Nat.sub_zero, Int.add_zero, Int.zero_add, Nat.add_zero, Nat.zero_add, Nat.zero_mul, w1]
      have lB : (parseF t).1.length ≤ 1000000 := by have := eqFs_len b5; omega
      refine Text_run (hw5.mono Rfact_mono sn_le) x5.wf lB b8 (fun H6 x6 => ?_)
      rw [b4]
      have hE6 := hE5.trans x6 n5
      have n6 := hE6.next
      simp only [nx_mark] at n6
      simp (disch := first | omega | (simp only [List.length_cons, List.length_nil, true_and, and_true, nx_push, nx_put, nx_mark]; done) | (simp only [List.length_cons, List.length_nil, true_and, and_true, nx_push, nx_put, nx_mark]; omega)) only [go_sem, ↓reduceIte, Nat.reduceAdd, Nat.reduceMul, Nat.reduceSub, Int.reduceToNat, UInt8.reduceToNat, Nat.reduceLeDiff, Nat.reduceEqDiff, Nat.sub_zero, Int.add_zero, Int.zero_add, Nat.add_zero, Nat.zero_add, Nat.zero_mul, b3]
      have ru : SlR 7 Rfact H6.get u (parseF s).1 := ((((hu.mono Rfact_mono sn_le).mono Rfact_mono (le_up x4 x3.wf (Nat.le_refl _))).mono Rfact_mono (le_up x5 x4.wf (Nat.le_refl _))).mono Rfact_mono (le_up x6 x5.wf (Nat.le_refl _)))
      have rw6 : SlR 7 Rfact H6.get w (parseF t).1 := (hw5.mono Rfact_mono sn_le).mono Rfact_mono (le_up x6 x5.wf (Nat.le_refl _))
      refine SFacts_run ru rw6 x6.wf (by omega) (fun x hx => (b7 x hx).2.2) (fun H7 x7 => ?_)
      rw [eqFs_symm, b5]
      have hE7 := hE6.trans x7 n6
      simp (disch := first | omega | (simp only [List.length_cons, List.length_nil, true_and, and_true, nx_push, nx_put, nx_mark]; done) | (simp only [List.length_cons, List.length_nil, true_and, and_true, nx_push, nx_put, nx_mark]; omega)) only [go_sem, ↓reduceIte, Nat.reduceAdd, Nat.reduceMul, Nat.reduceSub, Int.reduceToNat, UInt8.reduceToNat, Nat.reduceLeDiff, Nat.reduceEqDiff, Nat.sub_zero, Int.add_zero, Int.zero_add, Nat.add_zero, Nat.zero_add, Nat.zero_mul]
      exact atQ 113 rfl (BackQ.mk rfl hE7)
    · simp (disch := first | omega | (simp only [List.length_cons, List.length_nil, true_and, and_true, nx_push, nx_put, nx_mark]; done) | (simp only [List.length_cons, List.length_nil, true_and, and_true, nx_push, nx_put, nx_mark]; omega)) only [go_sem, ↓reduceIte, Nat.reduceAdd, Nat.reduceMul, Nat.reduceSub, Int.reduceToNat, UInt8.reduceToNat, Nat.reduceLeDiff, Nat.reduceEqDiff, Nat.sub_zero, Int.add_zero, Int.zero_add, Nat.add_zero, Nat.zero_add, Nat.zero_mul, u1, he]
      exact atQ 113 rfl (BackQ.mk rfl hE3)
  · rintro e env H1 ⟨rfl, f, rfl, f1, hE1⟩
    show @W S false _ (trO 113 f) H1 ⟨_⟩
    obtain ⟨b1, s1⟩ := shr_any a 1 1 rfl
    obtain ⟨r2, h2, e2⟩ := and_3 b1 255 255 rfl (by omega)
    obtain ⟨q, hq, m2⟩ := rem_3 r2 14 14 rfl (by omega) (by omega)
    have n1 := hE1.next
    simp only [nx_mark] at n1
    simp (disch := first | omega | (simp only [List.length_cons, List.length_nil, true_and, and_true, nx_push, nx_put, nx_mark]; done) | (simp only [List.length_cons, List.length_nil, true_and, and_true, nx_push, nx_put, nx_mark]; omega)) only [go_sem, ↓reduceIte, Nat.reduceAdd, Nat.reduceMul, Nat.reduceSub, Int.reduceToNat, UInt8.reduceToNat, Nat.reduceLeDiff, Nat.reduceEqDiff, Nat.sub_zero, Int.add_zero, Int.zero_add, Nat.add_zero, Nat.zero_add, Nat.zero_mul, f1, s1, e2, m2]
    have hE7 : ∀ o1 o2 o3 o4 o5 o6 o7, Ext H.next (H.mark []) (((((((H1.push o1).push o2).push o3).push o4).push o5).push o6).push o7) := fun _ _ _ _ _ _ _ => ((((((hE1.push _ (by first | omega | (simp only [nx_push, nx_put, nx_mark]; done) | (simp only [nx_push, nx_put, nx_mark]; omega))).push _ (by first | omega | (simp only [nx_push, nx_put, nx_mark]; done) | (simp only [nx_push, nx_put, nx_mark]; omega))).push _ (by first | omega | (simp only [nx_push, nx_put, nx_mark]; done) | (simp only [nx_push, nx_put, nx_mark]; omega))).push _ (by first | omega | (simp only [nx_push, nx_put, nx_mark]; done) | (simp only [nx_push, nx_put, nx_mark]; omega))).push _ (by first | omega | (simp only [nx_push, nx_put, nx_mark]; done) | (simp only [nx_push, nx_put, nx_mark]; omega))).push _ (by first | omega | (simp only [nx_push, nx_put, nx_mark]; done) | (simp only [nx_push, nx_put, nx_mark]; omega))).push _ (by first | omega | (simp only [nx_push, nx_put, nx_mark]; done) | (simp only [nx_push, nx_put, nx_mark]; omega))
    have nm : isName [97] = true := by decide
    have ok7 : ∀ x ∈ allT, ∀ {o1 o2 o3 o4 o5 o6 o7}, ∀ y ∈ [x], toldOkH (((((((H1.push o1).push o2).push o3).push o4).push o5).push o6).push o7) y := fun x hx _ _ _ _ _ _ _ y hy => by
      simp only [List.mem_singleton] at hy
      subst hy
      obtain ⟨_, k1, k2, k3⟩ := all_text y hx
      exact ⟨okN.ext (H := H.mark []) (m := H.next) ⟨k1.1, .inr ⟨k1.2, hg⟩⟩ hw (hE7 _ _ _ _ _ _ _) (Nat.le_refl _), k2, k3⟩
    obtain rfl | rfl | rfl | rfl | rfl | rfl | rfl | rfl | rfl | rfl | rfl | rfl | rfl | rfl : q = 0 ∨ q = 1 ∨ q = 2 ∨ q = 3 ∨ q = 4 ∨ q = 5 ∨ q = 6 ∨ q = 7 ∨ q = 8 ∨ q = 9 ∨ q = 10 ∨ q = 11 ∨ q = 12 ∨ q = 13 := by omega
    all_goals simp (disch := first | omega | (simp only [List.length_cons, List.length_nil, true_and, and_true, nx_push, nx_put, nx_mark]; done) | (simp only [List.length_cons, List.length_nil, true_and, and_true, nx_push, nx_put, nx_mark]; omega)) only [go_sem, ↓reduceIte, Nat.reduceAdd, Nat.reduceMul, Nat.reduceSub, Int.reduceToNat, UInt8.reduceToNat, Nat.reduceLeDiff, Nat.reduceEqDiff, Nat.sub_zero, Int.add_zero, Int.zero_add, Nat.add_zero, Nat.zero_add, Nat.zero_mul]
    · refine Text_runH (l := [fact0]) (oneR (u := .nsl) (t := ty_api_Fact) (by simp (disch := first | omega | (simp only [List.length_cons, List.length_nil, true_and, and_true, nx_push, nx_put, nx_mark]; done) | (simp only [List.length_cons, List.length_nil, true_and, and_true, nx_push, nx_put, nx_mark]; omega)) only [go_sem, ↓reduceIte, Nat.reduceAdd, Nat.reduceMul, Nat.reduceSub, Int.reduceToNat, UInt8.reduceToNat, Nat.reduceLeDiff, Nat.reduceEqDiff, Nat.sub_zero, Int.add_zero, Int.zero_add, Nat.add_zero, Nat.zero_add, Nat.zero_mul, factC, fact0]) SlR.nil) (hE7 _ _ _ _ _ _ _).wf (by simp) (ok7 _ (by decide)) (fun H8 x8 => ?_)
      rw [(all_text _ (by decide : (fact0 : FactT) ∈ allT)).1]
      have hE8 := (hE7 _ _ _ _ _ _ _).trans x8 (by simp only [nx_push]; omega)
      have hm8 : H8.marks = [] := hE8.marks
      simp (disch := first | omega | (simp only [List.length_cons, List.length_nil, true_and, and_true, nx_push, nx_put, nx_mark]; done) | (simp only [List.length_cons, List.length_nil, true_and, and_true, nx_push, nx_put, nx_mark]; omega)) only [go_sem, ↓reduceIte, Nat.reduceAdd, Nat.reduceMul, Nat.reduceSub, Int.reduceToNat, UInt8.reduceToNat, Nat.reduceLeDiff, Nat.reduceEqDiff, Nat.sub_zero, Int.add_zero, Int.zero_add, Nat.add_zero, Nat.zero_add, Nat.zero_mul, nm]
      refine awake_run hE8.wf (fun H9 x9 => ?_)
      have hE9 := hE8.trans x9 (by have := hE8.next; simpa only [nx_mark] using this)
      have hm9 : H9.marks = [] := hE9.marks
      simp (disch := first | omega | (simp only [List.length_cons, List.length_nil, true_and, and_true, nx_push, nx_put, nx_mark]; done) | (simp only [List.length_cons, List.length_nil, true_and, and_true, nx_push, nx_put, nx_mark]; omega)) only [go_sem, ↓reduceIte, Nat.reduceAdd, Nat.reduceMul, Nat.reduceSub, Int.reduceToNat, UInt8.reduceToNat, Nat.reduceLeDiff, Nat.reduceEqDiff, Nat.sub_zero, Int.add_zero, Int.zero_add, Nat.add_zero, Nat.zero_add, Nat.zero_mul, hm9]
      exact h _
    · refine Text_runH (l := [⟨9, [97], [], [], 0, [], 0⟩]) (oneR (u := .nsl) (t := ty_api_Fact) (by simp (disch := first | omega | (simp only [List.length_cons, List.length_nil, true_and, and_true, nx_push, nx_put, nx_mark]; done) | (simp only [List.length_cons, List.length_nil, true_and, and_true, nx_push, nx_put, nx_mark]; omega)) only [go_sem, ↓reduceIte, Nat.reduceAdd, Nat.reduceMul, Nat.reduceSub, Int.reduceToNat, UInt8.reduceToNat, Nat.reduceLeDiff, Nat.reduceEqDiff, Nat.sub_zero, Int.add_zero, Int.zero_add, Nat.add_zero, Nat.zero_add, Nat.zero_mul, factC, fact0]) SlR.nil) (hE7 _ _ _ _ _ _ _).wf (by simp) (ok7 _ (by decide)) (fun H8 x8 => ?_)
      rw [(all_text _ (by decide : (⟨9, [97], [], [], 0, [], 0⟩ : FactT) ∈ allT)).1]
      have hE8 := (hE7 _ _ _ _ _ _ _).trans x8 (by simp only [nx_push]; omega)
      have hm8 : H8.marks = [] := hE8.marks
      simp (disch := first | omega | (simp only [List.length_cons, List.length_nil, true_and, and_true, nx_push, nx_put, nx_mark]; done) | (simp only [List.length_cons, List.length_nil, true_and, and_true, nx_push, nx_put, nx_mark]; omega)) only [go_sem, ↓reduceIte, Nat.reduceAdd, Nat.reduceMul, Nat.reduceSub, Int.reduceToNat, UInt8.reduceToNat, Nat.reduceLeDiff, Nat.reduceEqDiff, Nat.sub_zero, Int.add_zero, Int.zero_add, Nat.add_zero, Nat.zero_add, Nat.zero_mul, nm]
      refine awake_run hE8.wf (fun H9 x9 => ?_)
      have hE9 := hE8.trans x9 (by have := hE8.next; simpa only [nx_mark] using this)
      have hm9 : H9.marks = [] := hE9.marks
      simp (disch := first | omega | (simp only [List.length_cons, List.length_nil, true_and, and_true, nx_push, nx_put, nx_mark]; done) | (simp only [List.length_cons, List.length_nil, true_and, and_true, nx_push, nx_put, nx_mark]; omega)) only [go_sem, ↓reduceIte, Nat.reduceAdd, Nat.reduceMul, Nat.reduceSub, Int.reduceToNat, UInt8.reduceToNat, Nat.reduceLeDiff, Nat.reduceEqDiff, Nat.sub_zero, Int.add_zero, Int.zero_add, Nat.add_zero, Nat.zero_add, Nat.zero_mul, hm9]
      exact h _
    · refine Text_runH (l := [⟨1, [], [], [], 0, [], 0⟩]) (oneR (u := .nsl) (t := ty_api_Fact) (by simp (disch := first | omega | (simp only [List.length_cons, List.length_nil, true_and, and_true, nx_push, nx_put, nx_mark]; done) | (simp only [List.length_cons, List.length_nil, true_and, and_true, nx_push, nx_put, nx_mark]; omega)) only [go_sem, ↓reduceIte, Nat.reduceAdd, Nat.reduceMul, Nat.reduceSub, Int.reduceToNat, UInt8.reduceToNat, Nat.reduceLeDiff, Nat.reduceEqDiff, Nat.sub_zero, Int.add_zero, Int.zero_add, Nat.add_zero, Nat.zero_add, Nat.zero_mul, factC, fact0]) SlR.nil) (hE7 _ _ _ _ _ _ _).wf (by simp) (ok7 _ (by decide)) (fun H8 x8 => ?_)
      rw [(all_text _ (by decide : (⟨1, [], [], [], 0, [], 0⟩ : FactT) ∈ allT)).1]
      have hE8 := (hE7 _ _ _ _ _ _ _).trans x8 (by simp only [nx_push]; omega)
      have hm8 : H8.marks = [] := hE8.marks
      simp (disch := first | omega | (simp only [List.length_cons, List.length_nil, true_and, and_true, nx_push, nx_put, nx_mark]; done) | (simp only [List.length_cons, List.length_nil, true_and, and_true, nx_push, nx_put, nx_mark]; omega)) only [go_sem, ↓reduceIte, Nat.reduceAdd, Nat.reduceMul, Nat.reduceSub, Int.reduceToNat, UInt8.reduceToNat, Nat.reduceLeDiff, Nat.reduceEqDiff, Nat.sub_zero, Int.add_zero, Int.zero_add, Nat.add_zero, Nat.zero_add, Nat.zero_mul, nm]
      refine awake_run hE8.wf (fun H9 x9 => ?_)
      have hE9 := hE8.trans x9 (by have := hE8.next; simpa only [nx_mark] using this)
      have hm9 : H9.marks = [] := hE9.marks
      simp (disch := first | omega | (simp only [List.length_cons, List.length_nil, true_and, and_true, nx_push, nx_put, nx_mark]; done) | (simp only [List.length_cons, List.length_nil, true_and, and_true, nx_push, nx_put, nx_mark]; omega)) only [go_sem, ↓reduceIte, Nat.reduceAdd, Nat.reduceMul, Nat.reduceSub, Int.reduceToNat, UInt8.reduceToNat, Nat.reduceLeDiff, Nat.reduceEqDiff, Nat.sub_zero, Int.add_zero, Int.zero_add, Nat.add_zero, Nat.zero_add, Nat.zero_mul, hm9]
      exact h _
    · refine Text_runH (l := [⟨1, [65], [], [], 0, [], 0⟩]) (oneR (u := .nsl) (t := ty_api_Fact) (by simp (disch := first | omega | (simp only [List.length_cons, List.length_nil, true_and, and_true, nx_push, nx_put, nx_mark]; done) | (simp only [List.length_cons, List.length_nil, true_and, and_true, nx_push, nx_put, nx_mark]; omega)) only [go_sem, ↓reduceIte, Nat.reduceAdd, Nat.reduceMul, Nat.reduceSub, Int.reduceToNat, UInt8.reduceToNat, Nat.reduceLeDiff, Nat.reduceEqDiff, Nat.sub_zero, Int.add_zero, Int.zero_add, Nat.add_zero, Nat.zero_add, Nat.zero_mul, factC, fact0]) SlR.nil) (hE7 _ _ _ _ _ _ _).wf (by simp) (ok7 _ (by decide)) (fun H8 x8 => ?_)
      rw [(all_text _ (by decide : (⟨1, [65], [], [], 0, [], 0⟩ : FactT) ∈ allT)).1]
      have hE8 := (hE7 _ _ _ _ _ _ _).trans x8 (by simp only [nx_push]; omega)
      have hm8 : H8.marks = [] := hE8.marks
      simp (disch := first | omega | (simp only [List.length_cons, List.length_nil, true_and, and_true, nx_push, nx_put, nx_mark]; done) | (simp only [List.length_cons, List.length_nil, true_and, and_true, nx_push, nx_put, nx_mark]; omega)) only [go_sem, ↓reduceIte, Nat.reduceAdd, Nat.reduceMul, Nat.reduceSub, Int.reduceToNat, UInt8.reduceToNat, Nat.reduceLeDiff, Nat.reduceEqDiff, Nat.sub_zero, Int.add_zero, Int.zero_add, Nat.add_zero, Nat.zero_add, Nat.zero_mul, nm]
      refine awake_run hE8.wf (fun H9 x9 => ?_)
      have hE9 := hE8.trans x9 (by have := hE8.next; simpa only [nx_mark] using this)
      have hm9 : H9.marks = [] := hE9.marks
      simp (disch := first | omega | (simp only [List.length_cons, List.length_nil, true_and, and_true, nx_push, nx_put, nx_mark]; done) | (simp only [List.length_cons, List.length_nil, true_and, and_true, nx_push, nx_put, nx_mark]; omega)) only [go_sem, ↓reduceIte, Nat.reduceAdd, Nat.reduceMul, Nat.reduceSub, Int.reduceToNat, UInt8.reduceToNat, Nat.reduceLeDiff, Nat.reduceEqDiff, Nat.sub_zero, Int.add_zero, Int.zero_add, Nat.add_zero, Nat.zero_add, Nat.zero_mul, hm9]
      exact h _
    · refine Text_runH (l := [⟨1, [97], [98], [], 0, [], 0⟩]) (oneR (u := .nsl) (t := ty_api_Fact) (by simp (disch := first | omega | (simp only [List.length_cons, List.length_nil, true_and, and_true, nx_push, nx_put, nx_mark]; done) | (simp only [List.length_cons, List.length_nil, true_and, and_true, nx_push, nx_put, nx_mark]; omega)) only [go_sem, ↓reduceIte, Nat.reduceAdd, Nat.reduceMul, Nat.reduceSub, Int.reduceToNat, UInt8.reduceToNat, Nat.reduceLeDiff, Nat.reduceEqDiff, Nat.sub_zero, Int.add_zero, Int.zero_add, Nat.add_zero, Nat.zero_add, Nat.zero_mul, factC, fact0]) SlR.nil) (hE7 _ _ _ _ _ _ _).wf (by simp) (ok7 _ (by decide)) (fun H8 x8 => ?_)
      rw [(all_text _ (by decide : (⟨1, [97], [98], [], 0, [], 0⟩ : FactT) ∈ allT)).1]
      have hE8 := (hE7 _ _ _ _ _ _ _).trans x8 (by simp only [nx_push]; omega)
      have hm8 : H8.marks = [] := hE8.marks
      simp (disch := first | omega | (simp only [List.length_cons, List.length_nil, true_and, and_true, nx_push, nx_put, nx_mark]; done) | (simp only [List.length_cons, List.length_nil, true_and, and_true, nx_push, nx_put, nx_mark]; omega)) only [go_sem, ↓reduceIte, Nat.reduceAdd, Nat.reduceMul, Nat.reduceSub, Int.reduceToNat, UInt8.reduceToNat, Nat.reduceLeDiff, Nat.reduceEqDiff, Nat.sub_zero, Int.add_zero, Int.zero_add, Nat.add_zero, Nat.zero_add, Nat.zero_mul, nm]
      refine awake_run hE8.wf (fun H9 x9 => ?_)
      have hE9 := hE8.trans x9 (by have := hE8.next; simpa only [nx_mark] using this)
      have hm9 : H9.marks = [] := hE9.marks
      simp (disch := first | omega | (simp only [List.length_cons, List.length_nil, true_and, and_true, nx_push, nx_put, nx_mark]; done) | (simp only [List.length_cons, List.length_nil, true_and, and_true, nx_push, nx_put, nx_mark]; omega)) only [go_sem, ↓reduceIte, Nat.reduceAdd, Nat.reduceMul, Nat.reduceSub, Int.reduceToNat, UInt8.reduceToNat, Nat.reduceLeDiff, Nat.reduceEqDiff, Nat.sub_zero, Int.add_zero, Int.zero_add, Nat.add_zero, Nat.zero_add, Nat.zero_mul, hm9]
      exact h _
    · refine Text_runH (l := [⟨2, [97], [], [], 1, [], 0⟩]) (oneR (u := .nsl) (t := ty_api_Fact) (by simp (disch := first | omega | (simp only [List.length_cons, List.length_nil, true_and, and_true, nx_push, nx_put, nx_mark]; done) | (simp only [List.length_cons, List.length_nil, true_and, and_true, nx_push, nx_put, nx_mark]; omega)) only [go_sem, ↓reduceIte, Nat.reduceAdd, Nat.reduceMul, Nat.reduceSub, Int.reduceToNat, UInt8.reduceToNat, Nat.reduceLeDiff, Nat.reduceEqDiff, Nat.sub_zero, Int.add_zero, Int.zero_add, Nat.add_zero, Nat.zero_add, Nat.zero_mul, factC, fact0]) SlR.nil) (hE7 _ _ _ _ _ _ _).wf (by simp) (ok7 _ (by decide)) (fun H8 x8 => ?_)
      rw [(all_text _ (by decide : (⟨2, [97], [], [], 1, [], 0⟩ : FactT) ∈ allT)).1]
      have hE8 := (hE7 _ _ _ _ _ _ _).trans x8 (by simp only [nx_push]; omega)
      have hm8 : H8.marks = [] := hE8.marks
      simp (disch := first | omega | (simp only [List.length_cons, List.length_nil, true_and, and_true, nx_push, nx_put, nx_mark]; done) | (simp only [List.length_cons, List.length_nil, true_and, and_true, nx_push, nx_put, nx_mark]; omega)) only [go_sem, ↓reduceIte, Nat.reduceAdd, Nat.reduceMul, Nat.reduceSub, Int.reduceToNat, UInt8.reduceToNat, Nat.reduceLeDiff, Nat.reduceEqDiff, Nat.sub_zero, Int.add_zero, Int.zero_add, Nat.add_zero, Nat.zero_add, Nat.zero_mul, nm]
      refine awake_run hE8.wf (fun H9 x9 => ?_)
      have hE9 := hE8.trans x9 (by have := hE8.next; simpa only [nx_mark] using this)
      have hm9 : H9.marks = [] := hE9.marks
      simp (disch := first | omega | (simp only [List.length_cons, List.length_nil, true_and, and_true, nx_push, nx_put, nx_mark]; done) | (simp only [List.length_cons, List.length_nil, true_and, and_true, nx_push, nx_put, nx_mark]; omega)) only [go_sem, ↓reduceIte, Nat.reduceAdd, Nat.reduceMul, Nat.reduceSub, Int.reduceToNat, UInt8.reduceToNat, Nat.reduceLeDiff, Nat.reduceEqDiff, Nat.sub_zero, Int.add_zero, Int.zero_add, Nat.add_zero, Nat.zero_add, Nat.zero_mul, hm9]
      exact h _
    · refine Text_runH (l := [⟨3, [97], [], [], 0, [], 0⟩]) (oneR (u := .nsl) (t := ty_api_Fact) (by simp (disch := first | omega | (simp only [List.length_cons, List.length_nil, true_and, and_true, nx_push, nx_put, nx_mark]; done) | (simp only [List.length_cons, List.length_nil, true_and, and_true, nx_push, nx_put, nx_mark]; omega)) only [go_sem, ↓reduceIte, Nat.reduceAdd, Nat.reduceMul, Nat.reduceSub, Int.reduceToNat, UInt8.reduceToNat, Nat.reduceLeDiff, Nat.reduceEqDiff, Nat.sub_zero, Int.add_zero, Int.zero_add, Nat.add_zero, Nat.zero_add, Nat.zero_mul, factC, fact0]) SlR.nil) (hE7 _ _ _ _ _ _ _).wf (by simp) (ok7 _ (by decide)) (fun H8 x8 => ?_)
      rw [(all_text _ (by decide : (⟨3, [97], [], [], 0, [], 0⟩ : FactT) ∈ allT)).1]
      have hE8 := (hE7 _ _ _ _ _ _ _).trans x8 (by simp only [nx_push]; omega)
      have hm8 : H8.marks = [] := hE8.marks
      simp (disch := first | omega | (simp only [List.length_cons, List.length_nil, true_and, and_true, nx_push, nx_put, nx_mark]; done) | (simp only [List.length_cons, List.length_nil, true_and, and_true, nx_push, nx_put, nx_mark]; omega)) only [go_sem, ↓reduceIte, Nat.reduceAdd, Nat.reduceMul, Nat.reduceSub, Int.reduceToNat, UInt8.reduceToNat, Nat.reduceLeDiff, Nat.reduceEqDiff, Nat.sub_zero, Int.add_zero, Int.zero_add, Nat.add_zero, Nat.zero_add, Nat.zero_mul, nm]
      refine awake_run hE8.wf (fun H9 x9 => ?_)
      have hE9 := hE8.trans x9 (by have := hE8.next; simpa only [nx_mark] using this)
      have hm9 : H9.marks = [] := hE9.marks
      simp (disch := first | omega | (simp only [List.length_cons, List.length_nil, true_and, and_true, nx_push, nx_put, nx_mark]; done) | (simp only [List.length_cons, List.length_nil, true_and, and_true, nx_push, nx_put, nx_mark]; omega)) only [go_sem, ↓reduceIte, Nat.reduceAdd, Nat.reduceMul, Nat.reduceSub, Int.reduceToNat, UInt8.reduceToNat, Nat.reduceLeDiff, Nat.reduceEqDiff, Nat.sub_zero, Int.add_zero, Int.zero_add, Nat.add_zero, Nat.zero_add, Nat.zero_mul, hm9]
      exact h _
    · refine Text_runH (l := [⟨5, [97], [98], [], 0, [], 0⟩]) (oneR (u := .nsl) (t := ty_api_Fact) (by simp (disch := first | omega | (simp only [List.length_cons, List.length_nil, true_and, and_true, nx_push, nx_put, nx_mark]; done) | (simp only [List.length_cons, List.length_nil, true_and, and_true, nx_push, nx_put, nx_mark]; omega)) only [go_sem, ↓reduceIte, Nat.reduceAdd, Nat.reduceMul, Nat.reduceSub, Int.reduceToNat, UInt8.reduceToNat, Nat.reduceLeDiff, Nat.reduceEqDiff, Nat.sub_zero, Int.add_zero, Int.zero_add, Nat.add_zero, Nat.zero_add, Nat.zero_mul, factC, fact0]) SlR.nil) (hE7 _ _ _ _ _ _ _).wf (by simp) (ok7 _ (by decide)) (fun H8 x8 => ?_)
      rw [(all_text _ (by decide : (⟨5, [97], [98], [], 0, [], 0⟩ : FactT) ∈ allT)).1]
      have hE8 := (hE7 _ _ _ _ _ _ _).trans x8 (by simp only [nx_push]; omega)
      have hm8 : H8.marks = [] := hE8.marks
      simp (disch := first | omega | (simp only [List.length_cons, List.length_nil, true_and, and_true, nx_push, nx_put, nx_mark]; done) | (simp only [List.length_cons, List.length_nil, true_and, and_true, nx_push, nx_put, nx_mark]; omega)) only [go_sem, ↓reduceIte, Nat.reduceAdd, Nat.reduceMul, Nat.reduceSub, Int.reduceToNat, UInt8.reduceToNat, Nat.reduceLeDiff, Nat.reduceEqDiff, Nat.sub_zero, Int.add_zero, Int.zero_add, Nat.add_zero, Nat.zero_add, Nat.zero_mul, nm]
      refine awake_run hE8.wf (fun H9 x9 => ?_)
      have hE9 := hE8.trans x9 (by have := hE8.next; simpa only [nx_mark] using this)
      have hm9 : H9.marks = [] := hE9.marks
      simp (disch := first | omega | (simp only [List.length_cons, List.length_nil, true_and, and_true, nx_push, nx_put, nx_mark]; done) | (simp only [List.length_cons, List.length_nil, true_and, and_true, nx_push, nx_put, nx_mark]; omega)) only [go_sem, ↓reduceIte, Nat.reduceAdd, Nat.reduceMul, Nat.reduceSub, Int.reduceToNat, UInt8.reduceToNat, Nat.reduceLeDiff, Nat.reduceEqDiff, Nat.sub_zero, Int.add_zero, Int.zero_add, Nat.add_zero, Nat.zero_add, Nat.zero_mul, hm9]
      exact h _
    · refine Text_runH (l := [⟨6, [97], [], [], 2, [[114]], 0⟩]) (oneR (u := (.sl (H1.next) 0 1 (some 1))) (t := ty_api_Fact) (by simp (disch := first | omega | (simp only [List.length_cons, List.length_nil, true_and, and_true, nx_push, nx_put, nx_mark]; done) | (simp only [List.length_cons, List.length_nil, true_and, and_true, nx_push, nx_put, nx_mark]; omega)) only [go_sem, ↓reduceIte, Nat.reduceAdd, Nat.reduceMul, Nat.reduceSub, Int.reduceToNat, UInt8.reduceToNat, Nat.reduceLeDiff, Nat.reduceEqDiff, Nat.sub_zero, Int.add_zero, Int.zero_add, Nat.add_zero, Nat.zero_add, Nat.zero_mul, factC, fact0]) (sR (l := [[114]]) (t := ty_string) (by simp (disch := first | omega | (simp only [List.length_cons, List.length_nil, true_and, and_true, nx_push, nx_put, nx_mark]; done) | (simp only [List.length_cons, List.length_nil, true_and, and_true, nx_push, nx_put, nx_mark]; omega)) only [go_sem, ↓reduceIte, Nat.reduceAdd, Nat.reduceMul, Nat.reduceSub, Int.reduceToNat, UInt8.reduceToNat, Nat.reduceLeDiff, Nat.reduceEqDiff, Nat.sub_zero, Int.add_zero, Int.zero_add, Nat.add_zero, Nat.zero_add, Nat.zero_mul, List.map_cons, List.map_nil]))) (hE7 _ _ _ _ _ _ _).wf (by simp) (ok7 _ (by decide)) (fun H8 x8 => ?_)
      rw [(all_text _ (by decide : (⟨6, [97], [], [], 2, [[114]], 0⟩ : FactT) ∈ allT)).1]
      have hE8 := (hE7 _ _ _ _ _ _ _).trans x8 (by simp only [nx_push]; omega)
      have hm8 : H8.marks = [] := hE8.marks
      simp (disch := first | omega | (simp only [List.length_cons, List.length_nil, true_and, and_true, nx_push, nx_put, nx_mark]; done) | (simp only [List.length_cons, List.length_nil, true_and, and_true, nx_push, nx_put, nx_mark]; omega)) only [go_sem, ↓reduceIte, Nat.reduceAdd, Nat.reduceMul, Nat.reduceSub, Int.reduceToNat, UInt8.reduceToNat, Nat.reduceLeDiff, Nat.reduceEqDiff, Nat.sub_zero, Int.add_zero, Int.zero_add, Nat.add_zero, Nat.zero_add, Nat.zero_mul, nm]
      refine awake_run hE8.wf (fun H9 x9 => ?_)
      have hE9 := hE8.trans x9 (by have := hE8.next; simpa only [nx_mark] using this)
      have hm9 : H9.marks = [] := hE9.marks
      simp (disch := first | omega | (simp only [List.length_cons, List.length_nil, true_and, and_true, nx_push, nx_put, nx_mark]; done) | (simp only [List.length_cons, List.length_nil, true_and, and_true, nx_push, nx_put, nx_mark]; omega)) only [go_sem, ↓reduceIte, Nat.reduceAdd, Nat.reduceMul, Nat.reduceSub, Int.reduceToNat, UInt8.reduceToNat, Nat.reduceLeDiff, Nat.reduceEqDiff, Nat.sub_zero, Int.add_zero, Int.zero_add, Nat.add_zero, Nat.zero_add, Nat.zero_mul, hm9]
      exact h _
    · refine Text_runH (l := [⟨6, [97], [], [], 0, [[114], [115]], 0⟩]) (oneR (u := (.sl (H1.next + 1) 0 2 (some 2))) (t := ty_api_Fact) (by simp (disch := first | omega | (simp only [List.length_cons, List.length_nil, true_and, and_true, nx_push, nx_put, nx_mark]; done) | (simp only [List.length_cons, List.length_nil, true_and, and_true, nx_push, nx_put, nx_mark]; omega)) only [go_sem, ↓reduceIte, Nat.reduceAdd, Nat.reduceMul, Nat.reduceSub, Int.reduceToNat, UInt8.reduceToNat, Nat.reduceLeDiff, Nat.reduceEqDiff, Nat.sub_zero, Int.add_zero, Int.zero_add, Nat.add_zero, Nat.zero_add, Nat.zero_mul, factC, fact0]) (sR (l := [[114], [115]]) (t := ty_string) (by simp (disch := first | omega | (simp only [List.length_cons, List.length_nil, true_and, and_true, nx_push, nx_put, nx_mark]; done) | (simp only [List.length_cons, List.length_nil, true_and, and_true, nx_push, nx_put, nx_mark]; omega)) only [go_sem, ↓reduceIte, Nat.reduceAdd, Nat.reduceMul, Nat.reduceSub, Int.reduceToNat, UInt8.reduceToNat, Nat.reduceLeDiff, Nat.reduceEqDiff, Nat.sub_zero, Int.add_zero, Int.zero_add, Nat.add_zero, Nat.zero_add, Nat.zero_mul, List.map_cons, List.map_nil]))) (hE7 _ _ _ _ _ _ _).wf (by simp) (ok7 _ (by decide)) (fun H8 x8 => ?_)
      rw [(all_text _ (by decide : (⟨6, [97], [], [], 0, [[114], [115]], 0⟩ : FactT) ∈ allT)).1]
      have hE8 := (hE7 _ _ _ _ _ _ _).trans x8 (by simp only [nx_push]; omega)
      have hm8 : H8.marks = [] := hE8.marks
      simp (disch := first | omega | (simp only [List.length_cons, List.length_nil, true_and, and_true, nx_push, nx_put, nx_mark]; done) | (simp only [List.length_cons, List.length_nil, true_and, and_true, nx_push, nx_put, nx_mark]; omega)) only [go_sem, ↓reduceIte, Nat.reduceAdd, Nat.reduceMul, Nat.reduceSub, Int.reduceToNat, UInt8.reduceToNat, Nat.reduceLeDiff, Nat.reduceEqDiff, Nat.sub_zero, Int.add_zero, Int.zero_add, Nat.add_zero, Nat.zero_add, Nat.zero_mul, nm]
      refine awake_run hE8.wf (fun H9 x9 => ?_)
      have hE9 := hE8.trans x9 (by have := hE8.next; simpa only [nx_mark] using this)
      have hm9 : H9.marks = [] := hE9.marks
      simp (disch := first | omega | (simp only [List.length_cons, List.length_nil, true_and, and_true, nx_push, nx_put, nx_mark]; done) | (simp only [List.length_cons, List.length_nil, true_and, and_true, nx_push, nx_put, nx_mark]; omega)) only [go_sem, ↓reduceIte, Nat.reduceAdd, Nat.reduceMul, Nat.reduceSub, Int.reduceToNat, UInt8.reduceToNat, Nat.reduceLeDiff, Nat.reduceEqDiff, Nat.sub_zero, Int.add_zero, Int.zero_add, Nat.add_zero, Nat.zero_add, Nat.zero_mul, hm9]
      exact h _
    · refine Text_runH (l := [⟨7, [97], [], [], 100, [[114], [115]], 0⟩]) (oneR (u := (.sl (H1.next + 1 + 1) 0 2 (some 2))) (t := ty_api_Fact) (by simp (disch := first | omega | (simp only [List.length_cons, List.length_nil, true_and, and_true, nx_push, nx_put, nx_mark]; done) | (simp only [List.length_cons, List.length_nil, true_and, and_true, nx_push, nx_put, nx_mark]; omega)) only [go_sem, ↓reduceIte, Nat.reduceAdd, Nat.reduceMul, Nat.reduceSub, Int.reduceToNat, UInt8.reduceToNat, Nat.reduceLeDiff, Nat.reduceEqDiff, Nat.sub_zero, Int.add_zero, Int.zero_add, Nat.add_zero, Nat.zero_add, Nat.zero_mul, factC, fact0]) (sR (l := [[114], [115]]) (t := ty_string) (by simp (disch := first | omega | (simp only [List.length_cons, List.length_nil, true_and, and_true, nx_push, nx_put, nx_mark]; done) | (simp only [List.length_cons, List.length_nil, true_and, and_true, nx_push, nx_put, nx_mark]; omega)) only [go_sem, ↓reduceIte, Nat.reduceAdd, Nat.reduceMul, Nat.reduceSub, Int.reduceToNat, UInt8.reduceToNat, Nat.reduceLeDiff, Nat.reduceEqDiff, Nat.sub_zero, Int.add_zero, Int.zero_add, Nat.add_zero, Nat.zero_add, Nat.zero_mul, List.map_cons, List.map_nil]))) (hE7 _ _ _ _ _ _ _).wf (by simp) (ok7 _ (by decide)) (fun H8 x8 => ?_)
      rw [(all_text _ (by decide : (⟨7, [97], [], [], 100, [[114], [115]], 0⟩ : FactT) ∈ allT)).1]
      have hE8 := (hE7 _ _ _ _ _ _ _).trans x8 (by simp only [nx_push]; omega)
      have hm8 : H8.marks = [] := hE8.marks
      simp (disch := first | omega | (simp only [List.length_cons, List.length_nil, true_and, and_true, nx_push, nx_put, nx_mark]; done) | (simp only [List.length_cons, List.length_nil, true_and, and_true, nx_push, nx_put, nx_mark]; omega)) only [go_sem, ↓reduceIte, Nat.reduceAdd, Nat.reduceMul, Nat.reduceSub, Int.reduceToNat, UInt8.reduceToNat, Nat.reduceLeDiff, Nat.reduceEqDiff, Nat.sub_zero, Int.add_zero, Int.zero_add, Nat.add_zero, Nat.zero_add, Nat.zero_mul, nm]
      refine awake_run hE8.wf (fun H9 x9 => ?_)
      have hE9 := hE8.trans x9 (by have := hE8.next; simpa only [nx_mark] using this)
      have hm9 : H9.marks = [] := hE9.marks
      simp (disch := first | omega | (simp only [List.length_cons, List.length_nil, true_and, and_true, nx_push, nx_put, nx_mark]; done) | (simp only [List.length_cons, List.length_nil, true_and, and_true, nx_push, nx_put, nx_mark]; omega)) only [go_sem, ↓reduceIte, Nat.reduceAdd, Nat.reduceMul, Nat.reduceSub, Int.reduceToNat, UInt8.reduceToNat, Nat.reduceLeDiff, Nat.reduceEqDiff, Nat.sub_zero, Int.add_zero, Int.zero_add, Nat.add_zero, Nat.zero_add, Nat.zero_mul, hm9]
      exact h _
    · refine Text_runH (l := [⟨8, [97], [], [], 0, [], 0⟩]) (oneR (u := .nsl) (t := ty_api_Fact) (by simp (disch := first | omega | (simp only [List.length_cons, List.length_nil, true_and, and_true, nx_push, nx_put, nx_mark]; done) | (simp only [List.length_cons, List.length_nil, true_and, and_true, nx_push, nx_put, nx_mark]; omega)) only [go_sem, ↓reduceIte, Nat.reduceAdd, Nat.reduceMul, Nat.reduceSub, Int.reduceToNat, UInt8.reduceToNat, Nat.reduceLeDiff, Nat.reduceEqDiff, Nat.sub_zero, Int.add_zero, Int.zero_add, Nat.add_zero, Nat.zero_add, Nat.zero_mul, factC, fact0]) SlR.nil) (hE7 _ _ _ _ _ _ _).wf (by simp) (ok7 _ (by decide)) (fun H8 x8 => ?_)
      rw [(all_text _ (by decide : (⟨8, [97], [], [], 0, [], 0⟩ : FactT) ∈ allT)).1]
      have hE8 := (hE7 _ _ _ _ _ _ _).trans x8 (by simp only [nx_push]; omega)
      have hm8 : H8.marks = [] := hE8.marks
      simp (disch := first | omega | (simp only [List.length_cons, List.length_nil, true_and, and_true, nx_push, nx_put, nx_mark]; done) | (simp only [List.length_cons, List.length_nil, true_and, and_true, nx_push, nx_put, nx_mark]; omega)) only [go_sem, ↓reduceIte, Nat.reduceAdd, Nat.reduceMul, Nat.reduceSub, Int.reduceToNat, UInt8.reduceToNat, Nat.reduceLeDiff, Nat.reduceEqDiff, Nat.sub_zero, Int.add_zero, Int.zero_add, Nat.add_zero, Nat.zero_add, Nat.zero_mul, nm]
      refine awake_run hE8.wf (fun H9 x9 => ?_)
      have hE9 := hE8.trans x9 (by have := hE8.next; simpa only [nx_mark] using this)
      have hm9 : H9.marks = [] := hE9.marks
      simp (disch := first | omega | (simp only [List.length_cons, List.length_nil, true_and, and_true, nx_push, nx_put, nx_mark]; done) | (simp only [List.length_cons, List.length_nil, true_and, and_true, nx_push, nx_put, nx_mark]; omega)) only [go_sem, ↓reduceIte, Nat.reduceAdd, Nat.reduceMul, Nat.reduceSub, Int.reduceToNat, UInt8.reduceToNat, Nat.reduceLeDiff, Nat.reduceEqDiff, Nat.sub_zero, Int.add_zero, Int.zero_add, Nat.add_zero, Nat.zero_add, Nat.zero_mul, hm9]
      exact h _
    · refine Text_runH (l := [⟨8, [97], [98], [], 0, [[114, 32, 115]], 0⟩]) (oneR (u := (.sl (H1.next + 1 + 1 + 1) 0 1 (some 1))) (t := ty_api_Fact) (by simp (disch := first | omega | (simp only [List.length_cons, List.length_nil, true_and, and_true, nx_push, nx_put, nx_mark]; done) | (simp only [List.length_cons, List.length_nil, true_and, and_true, nx_push, nx_put, nx_mark]; omega)) only [go_sem, ↓reduceIte, Nat.reduceAdd, Nat.reduceMul, Nat.reduceSub, Int.reduceToNat, UInt8.reduceToNat, Nat.reduceLeDiff, Nat.reduceEqDiff, Nat.sub_zero, Int.add_zero, Int.zero_add, Nat.add_zero, Nat.zero_add, Nat.zero_mul, factC, fact0]) (sR (l := [[114, 32, 115]]) (t := ty_string) (by simp (disch := first | omega | (simp only [List.length_cons, List.length_nil, true_and, and_true, nx_push, nx_put, nx_mark]; done) | (simp only [List.length_cons, List.length_nil, true_and, and_true, nx_push, nx_put, nx_mark]; omega)) only [go_sem, ↓reduceIte, Nat.reduceAdd, Nat.reduceMul, Nat.reduceSub, Int.reduceToNat, UInt8.reduceToNat, Nat.reduceLeDiff, Nat.reduceEqDiff, Nat.sub_zero, Int.add_zero, Int.zero_add, Nat.add_zero, Nat.zero_add, Nat.zero_mul, List.map_cons, List.map_nil]))) (hE7 _ _ _ _ _ _ _).wf (by simp) (ok7 _ (by decide)) (fun H8 x8 => ?_)
      rw [(all_text _ (by decide : (⟨8, [97], [98], [], 0, [[114, 32, 115]], 0⟩ : FactT) ∈ allT)).1]
      have hE8 := (hE7 _ _ _ _ _ _ _).trans x8 (by simp only [nx_push]; omega)
      have hm8 : H8.marks = [] := hE8.marks
      simp (disch := first | omega | (simp only [List.length_cons, List.length_nil, true_and, and_true, nx_push, nx_put, nx_mark]; done) | (simp only [List.length_cons, List.length_nil, true_and, and_true, nx_push, nx_put, nx_mark]; omega)) only [go_sem, ↓reduceIte, Nat.reduceAdd, Nat.reduceMul, Nat.reduceSub, Int.reduceToNat, UInt8.reduceToNat, Nat.reduceLeDiff, Nat.reduceEqDiff, Nat.sub_zero, Int.add_zero, Int.zero_add, Nat.add_zero, Nat.zero_add, Nat.zero_mul, nm]
      refine awake_run hE8.wf (fun H9 x9 => ?_)
      have hE9 := hE8.trans x9 (by have := hE8.next; simpa only [nx_mark] using this)
      have hm9 : H9.marks = [] := hE9.marks
      simp (disch := first | omega | (simp only [List.length_cons, List.length_nil, true_and, and_true, nx_push, nx_put, nx_mark]; done) | (simp only [List.length_cons, List.length_nil, true_and, and_true, nx_push, nx_put, nx_mark]; omega)) only [go_sem, ↓reduceIte, Nat.reduceAdd, Nat.reduceMul, Nat.reduceSub, Int.reduceToNat, UInt8.reduceToNat, Nat.reduceLeDiff, Nat.reduceEqDiff, Nat.sub_zero, Int.add_zero, Int.zero_add, Nat.add_zero, Nat.zero_add, Nat.zero_mul, hm9]
      exact h _
    · refine Text_runH (l := [⟨4, [97], [98], [], 0, [[99]], 0⟩]) (oneR (u := (.sl (H1.next + 1 + 1 + 1 + 1) 0 1 (some 1))) (t := ty_api_Fact) (by simp (disch := first | omega | (simp only [List.length_cons, List.length_nil, true_and, and_true, nx_push, nx_put, nx_mark]; done) | (simp only [List.length_cons, List.length_nil, true_and, and_true, nx_push, nx_put, nx_mark]; omega)) only [go_sem, ↓reduceIte, Nat.reduceAdd, Nat.reduceMul, Nat.reduceSub, Int.reduceToNat, UInt8.reduceToNat, Nat.reduceLeDiff, Nat.reduceEqDiff, Nat.sub_zero, Int.add_zero, Int.zero_add, Nat.add_zero, Nat.zero_add, Nat.zero_mul, factC, fact0]) (sR (l := [[99]]) (t := ty_string) (by simp (disch := first | omega | (simp only [List.length_cons, List.length_nil, true_and, and_true, nx_push, nx_put, nx_mark]; done) | (simp only [List.length_cons, List.length_nil, true_and, and_true, nx_push, nx_put, nx_mark]; omega)) only [go_sem, ↓reduceIte, Nat.reduceAdd, Nat.reduceMul, Nat.reduceSub, Int.reduceToNat, UInt8.reduceToNat, Nat.reduceLeDiff, Nat.reduceEqDiff, Nat.sub_zero, Int.add_zero, Int.zero_add, Nat.add_zero, Nat.zero_add, Nat.zero_mul, List.map_cons, List.map_nil]))) (hE7 _ _ _ _ _ _ _).wf (by simp) (ok7 _ (by decide)) (fun H8 x8 => ?_)
      rw [(all_text _ (by decide : (⟨4, [97], [98], [], 0, [[99]], 0⟩ : FactT) ∈ allT)).1]
      have hE8 := (hE7 _ _ _ _ _ _ _).trans x8 (by simp only [nx_push]; omega)
      have hm8 : H8.marks = [] := hE8.marks
      simp (disch := first | omega | (simp only [List.length_cons, List.length_nil, true_and, and_true, nx_push, nx_put, nx_mark]; done) | (simp only [List.length_cons, List.length_nil, true_and, and_true, nx_push, nx_put, nx_mark]; omega)) only [go_sem, ↓reduceIte, Nat.reduceAdd, Nat.reduceMul, Nat.reduceSub, Int.reduceToNat, UInt8.reduceToNat, Nat.reduceLeDiff, Nat.reduceEqDiff, Nat.sub_zero, Int.add_zero, Int.zero_add, Nat.add_zero, Nat.zero_add, Nat.zero_mul, nm]
      refine awake_run hE8.wf (fun H9 x9 => ?_)
      have hE9 := hE8.trans x9 (by have := hE8.next; simpa only [nx_mark] using this)
      have hm9 : H9.marks = [] := hE9.marks
      simp (disch := first | omega | (simp only [List.length_cons, List.length_nil, true_and, and_true, nx_push, nx_put, nx_mark]; done) | (simp only [List.length_cons, List.length_nil, true_and, and_true, nx_push, nx_put, nx_mark]; omega)) only [go_sem, ↓reduceIte, Nat.reduceAdd, Nat.reduceMul, Nat.reduceSub, Int.reduceToNat, UInt8.reduceToNat, Nat.reduceLeDiff, Nat.reduceEqDiff, Nat.sub_zero, Int.add_zero, Int.zero_add, Nat.add_zero, Nat.zero_add, Nat.zero_mul, hm9]
      exact h _
end Go.Fw.Ro
end
section
/- The told calls do as they are told. -/
namespace Go.Fw.Ro
open Go Go.Fw Go.Fw.Sys Go.RowKit
variable {P : Program} {μ : Mp} {B : Bd} {w0 w : World} {H : Mem}
structure ToldR (P : Program) (it cc st tB tU : Nat) : Prop where
  eit : ∃ fn, P.funcs[it]? = some fn ∧ (fn.name == "runtime.NumGoroutine") = false ∧ fn.body.isSome = true
  ecc : ∃ fn, P.funcs[cc]? = some fn ∧ (fn.name == "runtime.NumGoroutine") = false ∧ fn.body.isSome = true
  est : ∃ fn, P.funcs[st]? = some fn ∧ (fn.name == "runtime.NumGoroutine") = false ∧ fn.body.isSome = true
  itoa : ∀ (i : Nat), i < 100 → ∀ w : World, Calls P it #[.int .i64 i] w fun e w' => e = .returned (.string ⟨(Lib.decDigits i).toArray⟩) ∧ w' = w
  glt : gPow < P.globals.size
  itoaT : ∀ (i : Nat), i ≤ 1000 → ∀ (w : World) (cs : Array Value) (t : TypeId) (fr : Nat × Nat), w.heap[gPow]? = some (.cells cs t fr) → cs.toList = Lib.pow10Tab.map (fun z => Value.int .u64 z) → Calls P it #[.int .i64 i] w fun e w' => e = .returned (.string ⟨(Lib.decDigits i).toArray⟩) ∧ Below w.heap.size w w'
  copy : ∀ (b : Nat) (w : World), w.cell? ⟨b, 0, none⟩ = some (.pointer none) → w.shape? b = some (tB, 2) → w.frozen? ⟨b, 0, none⟩ = false → Calls P cc #[.pointer (some ⟨b, 0, none⟩)] w fun e w' => e = .returned (.tuple #[]) ∧ w' = w.setCell ⟨b, 0, none⟩ (.pointer (some ⟨b, 0, none⟩))
  str0 : ∀ (b : Nat) (w : World), w.cell? ⟨b, 1, none⟩ = some (.slice none 0 0) → Calls P st #[.pointer (some ⟨b, 0, none⟩)] w fun e w' => e = .returned (.string ⟨#[]⟩) ∧ Below w.heap.size w w'
  str : ∀ (b g cap n : Nat) (l : List UInt8) (w : World), l ≠ [] → l.length ≤ cap → cap ≤ n → l.length ≤ 9223372036854775807 → w.cell? ⟨b, 1, none⟩ = some (.slice (some ⟨g, 0, none⟩) l.length cap) → w.shape? g = some (tU, n) → (∀ (j : Nat) (x : UInt8), l[j]? = some x → w.cell? ⟨g, j, none⟩ = some (.int .u8 x.toNat)) →
    Calls P st #[.pointer (some ⟨b, 0, none⟩)] w fun e w' => e = .returned (.string ⟨l.toArray⟩) ∧ ∃ w1 : World, w1.heap = w.heap ∧ Below w.heap.size w w1 ∧ w' = w1.freeze ⟨g, 0, none⟩ l.length
theorem bleN2 (a b : Nat) : Nat.ble a b = decide (a ≤ b) := by
  cases h : Nat.ble a b with
  | true => rw [Nat.ble_eq] at h; simp [h]
  | false =>
    have : ¬ a ≤ b := fun e => by rw [← Nat.ble_eq] at e; rw [h] at e; cases e
    simp [this]
theorem one_arg {x : AV} {us : Array Value} (h : VRs μ [x] us.toList) : ∃ u, us = #[u] ∧ VR μ x u := by
  simp only [VRs] at h
  obtain ⟨u, r, e1, hu, e3⟩ := h
  subst e3
  exact ⟨u, Array.toList_inj.1 e1, hu⟩
theorem freeze_at {g n t : Nat} {cs : Array Value} {fr : Nat × Nat} (h : w.heap[g]? = some (.cells cs t fr)) (hn : n ≠ 0) : (∃ fr', (w.freeze ⟨g, 0, none⟩ n).heap[g]? = some (.cells cs t fr')) ∧ ∀ k, k ≠ g → (w.freeze ⟨g, 0, none⟩ n).heap[k]? = w.heap[k]? := by
  obtain ⟨lo, hi⟩ := fr
  unfold World.freeze
  simp only [if_neg hn]
  refine ⟨⟨_, by simp [Array.getElem?_modify, h]; rfl⟩, fun k hk => ?_⟩
  simp only [Array.getElem?_modify]
  rw [if_neg (fun e => hk e.symm)]
theorem strL_some : ∀ (l : List AV) (x : List UInt8), strL l = some x → l = x.map fun c => (AV.i .u8 (c.toNat : Int))
  | [], x, h => by simp [strL] at h; subst h; rfl
  | a :: r, x, h => by
    unfold strL at h
    split at h <;> try (simp at h; done)
    · rename_i e; cases e
    · rename_i n r' e
      injection e with e1 e2
      subst e1; subst e2
      split at h <;> try (simp at h; done)
      rename_i hn
      split at h <;> try (simp at h; done)
      rename_i y hy
      simp at h; subst h
      have := strL_some _ _ hy
      rw [List.map_cons, ← this]
      congr 2
      simp; omega
theorem tab_vals {vs : List Value} (h : VRs μ powL vs) : vs = Lib.pow10Tab.map (fun z => Value.int .u64 z) := by
  unfold powL at h
  generalize Lib.pow10Tab = l at h
  induction l generalizing vs with
  | nil => simpa [VRs] using h
  | cons z l ih =>
    simp only [List.map_cons, VRs] at h
    obtain ⟨y, ys, rfl, h1, h2⟩ := h
    simp only [VR] at h1
    rw [h1, ih h2]; rfl
theorem extR_ok {it cc st tB tU : Nat} (T : ToldR P it cc st tB tU) : CallOK P B w0 (extR it cc st tB tU) := by
  intro c args H v H' μ w us hv hr hg ha
  cases c with
  | f f =>
    have wide : ∀ {n : Nat} {R : Ending → World → Prop} {us : Array Value}, Calls P f us w R → CallsIn (Fr none) n P f us w R := fun h => callsIn_wide.2 h
    simp only [extR] at hv
    rw [beqN] at hv
    by_cases h1 : f = it
    · subst h1
      simp only [decide_true, cond_true] at hv
      split at hv <;> try (simp at hv; done)
      rename_i n
      rw [bltN] at hv
      by_cases hn : n < 100
      · simp only [hn, decide_true, cond_true, Option.some.injEq, Prod.mk.injEq] at hv
        obtain ⟨rfl, rfl⟩ := hv
        obtain ⟨u, rfl, hu⟩ := one_arg ha
        simp only [VR] at hu; subst hu
        obtain ⟨fn, e1, e2, e3⟩ := T.eit
        refine ⟨rfl, UponR.of_calls (body_enter e1 e2 e3 _ w) fun n' => wide ((T.itoa n hn w).mono fun e w' ⟨h1, h2⟩ => ⟨_, μ, h1, Mp.le_refl _, by rw [h2]; exact hr, rfl⟩)⟩
      · simp only [hn, decide_false, cond_false] at hv
        split at hv <;> try (simp at hv; done)
        rename_i l el
        unfold tabI at hv
        split at hv <;> try (simp at hv; done)
        rename_i hl
        obtain ⟨rfl, hn2⟩ := hl
        simp only [Option.some.injEq, Prod.mk.injEq] at hv
        obtain ⟨rfl, rfl⟩ := hv
        obtain ⟨u, rfl, hu⟩ := one_arg ha
        simp only [VR] at hu; subst hu
        obtain ⟨fn, e1, e2, e3⟩ := T.eit
        obtain ⟨cs, t, fr, g1, g2⟩ := hr.at_ el (by simp)
        obtain ⟨_, gb, _⟩ := hg gPow T.glt
        rw [gb] at g1
        refine ⟨rfl, UponR.of_calls (body_enter e1 e2 e3 _ w) fun n' => wide ((T.itoaT n hn2 w cs t fr g1 (tab_vals g2)).mono fun e w' ⟨h1, h2⟩ => ⟨_, μ, h1, Mp.le_refl _, hr.grow h2, rfl⟩)⟩
    · simp only [h1, decide_false, cond_false] at hv
      rw [beqN] at hv
      by_cases h2 : f = cc
      · subst h2
        simp only [decide_true, cond_true] at hv
        split at hv <;> try (simp at hv; done)
        rename_i id
        split at hv <;> try (simp at hv; done)
        rename_i b t eo
        rw [beqN] at hv
        by_cases ht : t = tB
        · subst ht
          simp only [decide_true, cond_true, Option.some.injEq, Prod.mk.injEq] at hv
          obtain ⟨rfl, rfl⟩ := hv
          obtain ⟨u, rfl, hu⟩ := one_arg ha
          obtain ⟨fn, e1, e2, e3⟩ := T.ecc
          have hob := hr.at_ eo (by simp)
          simp only [VR] at hu
          obtain ⟨hid, rfl⟩ := hu
          obtain ⟨cs, fr, g1, g2, g3, g4, g5, g6⟩ := hob
          obtain ⟨nb, nf, b0, sz⟩ := g6 rfl
          have sz2 : cs.size = 2 := sz rfl
          rw [b0] at nf g5 ⊢
          obtain ⟨v0, k1, k2⟩ := g5 0 (.p none) rfl
          simp only [VR] at k2; subst k2
          have c1 : w.cell? ⟨(μ.f id).blk, 0, none⟩ = some (.pointer none) := by simp only [World.cell?, g1, Option.isSome_none, Bool.false_eq_true, if_false]; exact k1
          have c2 : w.shape? (μ.f id).blk = some (t, 2) := by simp [World.shape?, g1, sz2]
          have c3 : w.frozen? ⟨(μ.f id).blk, 0, none⟩ = false := by
            have := nf 0 (Nat.le_refl _) (by omega)
            simp only [World.frozen?, g1]
            simp only [Nat.zero_add, Nat.le_zero_eq] at this
            rw [Bool.and_eq_false_iff, decide_eq_false_iff_not, decide_eq_false_iff_not]; omega
          have r3 := hr.store eo (off := 0) (xs := [.p (some (id, 0))]) (us := [.pointer (some ⟨(μ.f id).blk, 0, none⟩)]) ⟨_, _, rfl, ⟨hid, by rw [b0]⟩, rfl⟩ (by simp) (by simp only [List.length_cons, List.length_nil] at g3 ⊢; omega)
          rw [b0] at r3
          refine ⟨rfl, UponR.of_calls (body_enter e1 e2 e3 _ w) fun n' => wide ((T.copy (μ.f id).blk w c1 c2 c3).mono fun e w' ⟨h1, h2⟩ => ⟨_, μ, h1, Mp.le_refl _, by rw [h2]; exact r3, by simp [VR, VRs]⟩)⟩
        · simp [ht] at hv
      · simp only [h2, decide_false, cond_false] at hv
        rw [beqN] at hv
        by_cases h3 : f = st
        · subst h3
          simp only [decide_true, cond_true] at hv
          split at hv <;> try (simp at hv; done)
          rename_i id
          obtain ⟨fn, e1, e2, e3⟩ := T.est
          obtain ⟨u, rfl, hu⟩ := one_arg ha
          simp only [VR] at hu
          obtain ⟨hid, rfl⟩ := hu
          split at hv <;> try (simp at hv; done)
          · rename_i p t eo
            rw [beqN] at hv
            by_cases ht : t = tB
            · subst ht
              simp only [decide_true, cond_true, Option.some.injEq, Prod.mk.injEq] at hv
              obtain ⟨rfl, rfl⟩ := hv
              have hob := hr.at_ eo (by simp)
              obtain ⟨cs, fr, g1, g2, g3, g4, g5, g6⟩ := hob
              obtain ⟨nb, nf, b0, sz⟩ := g6 rfl
              rw [b0] at g5 ⊢
              obtain ⟨v1, k1, k2⟩ := g5 1 .nsl rfl
              simp only [VR] at k2; subst k2
              have c1 : w.cell? ⟨(μ.f id).blk, 1, none⟩ = some (.slice none 0 0) := by simp only [World.cell?, g1, Option.isSome_none, Bool.false_eq_true, if_false]; exact k1
              refine ⟨rfl, UponR.of_calls (body_enter e1 e2 e3 _ w) fun n' => wide ((T.str0 (μ.f id).blk w c1).mono fun e w' ⟨h1, h2⟩ => ⟨_, μ, h1, Mp.le_refl _, hr.grow h2, rfl⟩)⟩
            · simp [ht] at hv
          · rename_i p bid len t eo
            rw [beqN] at hv
            by_cases ht : t = tB
            · subst ht
              simp only [decide_true, cond_true] at hv
              have hob := hr.at_ eo (by simp)
              obtain ⟨cs, fr, g1, g2, g3, g4, g5, g6⟩ := hob
              obtain ⟨nb, nf, b0, sz⟩ := g6 rfl
              rw [b0] at g5 ⊢
              obtain ⟨v1, k1, k2⟩ := g5 1 (.sl bid 0 len none) rfl
              simp only [VR] at k2
              obtain ⟨hbid, cap, rfl, hlc, hlim, _⟩ := k2
              have c1 : w.cell? ⟨(μ.f id).blk, 1, none⟩ = some (.slice (some ⟨(μ.f bid).blk, (μ.f bid).base + 0, none⟩) len cap) := by simp only [World.cell?, g1, Option.isSome_none, Bool.false_eq_true, if_false]; exact k1
              have fin : ∀ (l : List AV) (x : List UInt8), strL l = some x → l.length = len → len ≠ 0 → len ≤ 140737488355328 → bid ≠ id → (∃ (t2 : Nat) (o : AO) (cs2 : Array Value) (fr2 : Nat × Nat), t2 = tU ∧ H.get bid = o ∧ o.owns = true ∧ w.heap[(μ.f bid).blk]? = some (.cells cs2 tU fr2) ∧ (μ.f bid).base = 0 ∧ (μ.f bid).sz = 1 ∧ (μ.f bid).lim ≤ cs2.size ∧ (∀ (j : Nat) (y : AV), l[j]? = some y → ∃ v, cs2[j]? = some v ∧ VR μ y v)) → v = .s x → H' = H.put bid (.froz l tU) → H'.marks = H.marks ∧ CalR P B w0 μ H' v #[Value.pointer (some ⟨(μ.f id).blk, 0, none⟩)] w (.f f) := by
                rintro l x hx hlen hne hmx hb ⟨t2, o, cs2, fr2, rfl, ho, hown, hc2, hb0, hsz1, hlm, hcell⟩ rfl rfl
                have hxl := strL_some _ _ hx
                have xl : x.length = len := by rw [hxl] at hlen; simpa using hlen
                have x0 : x ≠ [] := fun e => hne (by rw [← xl, e]; rfl)
                have T1 := T.str (μ.f id).blk (μ.f bid).blk cap cs2.size x w x0 (by omega) (by rw [hb0, hsz1] at hlim; omega) (by omega) (by rw [xl]; rw [hb0] at c1; exact c1) (by simp [World.shape?, hc2]) (fun j c hj => by
                  obtain ⟨u, u1, u2⟩ := hcell j (.i .u8 c.toNat) (by rw [hxl, List.getElem?_map, hj]; rfl)
                  simp only [VR] at u2; subst u2
                  simp only [World.cell?, hc2, Option.isSome_none, Bool.false_eq_true, if_false]; exact u1)
                refine ⟨rfl, UponR.of_calls (body_enter e1 e2 e3 _ w) fun n' => wide (T1.mono fun e w' ⟨h1, w1, hw1, hbl, h2⟩ => ⟨_, μ, h1, Mp.le_refl _, ?_, rfl⟩)⟩
                have hr1 := hr.grow hbl
                have hc2' : w1.heap[(μ.f bid).blk]? = some (.cells cs2 t2 fr2) := by rw [hw1]; exact hc2
                obtain ⟨⟨fr', f1⟩, f2⟩ := freeze_at (w := w1) (n := x.length) hc2' (by omega)
                have nB := (hr.at_ ho (owns_live hown)).ge hown
                rw [h2]
                refine hr1.put ho hown ⟨?_, ?_, ?_, ?_, fun k hk => f2 k (fun e => nB (e ▸ hk))⟩ f2 rfl ⟨cs2, fr', f1, ⟨hb0, hsz1, hlm⟩, ?_, hcell, nB⟩
                all_goals (first | (unfold World.freeze; split <;> rfl) | (unfold World.freeze; split <;> simp; done) | (rw [hb0, hsz1] at hlim; omega))
              have cut : ∀ {t2 : Nat} {l : List AV}, (bif Nat.beq t2 tU && Nat.beq l.length len && !Nat.beq bid id && !Nat.beq len 0 && Nat.ble len 140737488355328 then (match strL l with
                | some x => (some (AV.s x, H.put bid (.froz l t2)) : Option (AV × Mem))
                | none => none) else none) = some (v, H') → t2 = tU ∧ l.length = len ∧ bid ≠ id ∧ len ≠ 0 ∧ len ≤ 140737488355328 ∧ ∃ x, strL l = some x ∧ v = .s x ∧ H' = H.put bid (.froz l t2) := by
                intro t2 l h
                rw [beqN, beqN, beqN, beqN] at h
                by_cases c1 : t2 = tU <;> by_cases c2 : l.length = len <;> by_cases c3 : bid = id <;> by_cases c4 : len = 0 <;> by_cases c5 : len ≤ 140737488355328 <;> simp only [bleN2, c5, c1, c2, c3, c4, decide_true, decide_false, Bool.true_and, Bool.false_and, Bool.and_false, Bool.not_true, Bool.not_false, Bool.and_true, cond_true, cond_false, reduceCtorEq] at h
                split at h
                · rename_i x hx
                  simp only [Option.some.injEq, Prod.mk.injEq] at h
                  exact ⟨c1, c2, c3, c4, c5, x, hx, h.1.symm, by rw [c1]; exact h.2.symm⟩
                · cases h
              split at hv
              · rename_i l t2 frz eb
                obtain ⟨q1, q2, q3, q4, q8, x, q5, q6, q7⟩ := cut hv
                obtain ⟨cs2, fr2, p1, p2, p3, p4, p5, p6⟩ := hr.at_ eb (by simp)
                obtain ⟨_, _, b2, _⟩ := p6 rfl
                subst q1
                exact fin l x q5 q2 q4 q8 q3 ⟨_, _, cs2, fr2, rfl, eb, rfl, p1, b2, p4, p2, fun j y hj => by have := p5 j y hj; rw [b2] at this; simpa using this⟩ q6 q7
              · rename_i l t2 eb
                obtain ⟨q1, q2, q3, q4, q8, x, q5, q6, q7⟩ := cut hv
                obtain ⟨cs2, fr2, p1, ⟨p2, p3, p4⟩, p5, p6, p7⟩ := hr.at_ eb (by simp)
                subst q1
                exact fin l x q5 q2 q4 q8 q3 ⟨_, _, cs2, fr2, rfl, eb, rfl, p1, p2, p3, p4, p6⟩ q6 q7
              · cases hv
            · simp [ht] at hv
        · simp [h3] at hv
  | b f => simp [extR] at hv
  | y l => simp [extR] at hv
theorem Xr_ok (T1 : Told P n_internal_bytealg_IndexByteString n_internal_bytealg_CountString n_strings_Join) (T2 : ToldR P n_strconv_Itoa n_strings_Builder_copyCheck n_strings_Builder_String ty_strings_Builder ty_uint8) : CallOK P B w0 Xr := by
  intro c args H v H' μ w us hv hr hg ha
  unfold Xr at hv
  split at hv
  · rename_i r e
    cases hv
    exact extA_ok T1 c args H v H' μ w us e hr hg ha
  · exact extR_ok T2 c args H v H' μ w us hv hr hg ha
end Go.Fw.Ro
end
section
/-
  DERIVED: THE SHELF's CONTRACTS AT THIS DUMP, IN PLAIN WORDS (tools/lay-plain.mjs out of 'TryzShelf.lean', which tools/lay-shelf.mjs wrote): THE SAME DECLARATIONS UNDER THE SAME NAMES: 'import', 'namespace', 'open', 'def', 'theorem' AND NOTHING ELSE: no command of the shelf's: FOR A HAND-IN. Each laying: the table of numbers ('.._ren') and one theorem, a field a fact of the dump's own or the kernel's comparison; each contract: ONE APPLICATION.
-/
namespace Go.Proofs
open Go.Shelf
def Tryz.lays169_ren : Go.Shelf.Ren := ⟨fun | 169 => 26 | n => n, fun | 70 => 67 | 9 => 9 | 0 => 0 | 72 => 69 | 37 => 45 | 127 => 90 | 3 => 3 | 5 => 5 | n => n, fun | n => n⟩
theorem Tryz.lays169 : Go.Proofs.Lays.n169 Tryz.prog Tryz.lays169_ren := {
  mixed := by kernel_rfl
  f169 := Tryz.func26.trans (congrArg some (by kernel_rfl))
  t0 := Tryz.underlying0
  a0 := Tryz.isAgg0
  z0 := Tryz.sizeOf0
  v0 := Tryz.zeroValue0
  t3 := Tryz.underlying3
  a3 := Tryz.isAgg3
  z3 := Tryz.sizeOf3
  v3 := Tryz.zeroValue3
  t9 := Tryz.underlying9
  a9 := Tryz.isAgg9
  z9 := Tryz.sizeOf9
  v9 := Tryz.zeroValue9
  t37 := Tryz.underlying45
  a37 := Tryz.isAgg45
  z37 := Tryz.sizeOf45
  v37 := Tryz.zeroValue45
  t70 := Tryz.underlying67
  a70 := Tryz.isAgg67
  z70 := Tryz.sizeOf67
  v70 := Tryz.zeroValue67
  t72 := Tryz.underlying69
  a72 := Tryz.isAgg69
  z72 := Tryz.sizeOf69
  v72 := Tryz.zeroValue69
  t127 := Tryz.underlying90
  a127 := Tryz.isAgg90
  z127 := Tryz.sizeOf90
  v127 := Tryz.zeroValue90 }
theorem Tryz.Builder_Extra_169 : Builder.Extra Tryz.prog Tryz.lays169_ren := {
  sizeBuilder := by kernel_rfl
  liesBuilder := by kernel_rfl
  t5 := Tryz.underlying5
  a5 := Tryz.isAgg5
  z5 := Tryz.sizeOf5
  v5 := Tryz.zeroValue5
  infoByte := by kernel_rfl
  cellsByte := by kernel_rfl
  sizeByte := by kernel_rfl
  neB5 := by decide }
open Go.RowKit in
/-- (*strings.Builder).String: "String returns the accumulated string.": OF A BUILDER THAT HOLDS AT LEAST ONE BYTE. ✋ THE MODEL FREEZES THOSE BYTES IN THE BUFFER (unsafe.String): a later write INTO them ends the model's run without an answer; a later append BEHIND them goes on. The statement's order of evaluation is drawn: one draw. (LAID: no walk: one application.) -/
theorem Tryz.Builder_String (B b : Nat) (l : List UInt8) (w : World) (h : Lib.IsBuilder 69 5 B b (Lib.byteCells l) w) (h0 : l ≠ []) :
    Calls Tryz.prog 26 #[.pointer (some ⟨b, 0, none⟩)] w fun e w' => e = .returned (.string ⟨l.toArray⟩) ∧ Below B w w' := Any.Builder_String Tryz.lays169 Tryz.Builder_Extra_169 B b l w h h0
open Go.RowKit in
/-- (*strings.Builder).String OF A BUILDER THAT HOLDS NO BYTE: the empty string. (Its buffer is nil, or a row of which it has taken nothing yet; where that row has NO capacity the model lays one new block for unsafe.SliceData's 'some address'.) One draw. (LAID: no walk: one application.) -/
theorem Tryz.Builder_String_empty (B b : Nat) (w : World) (h : Lib.IsBuilder 69 5 B b [] w) (hBw : B ≤ w.heap.size) :
    Calls Tryz.prog 26 #[.pointer (some ⟨b, 0, none⟩)] w fun e w' => e = .returned (.string ⟨#[]⟩) ∧ Below B w w' := Any.Builder_String_empty Tryz.lays169 Tryz.Builder_Extra_169 B b w h hBw
open Go.RowKit in
/-- (*strings.Builder).String: "String returns the accumulated string.": WHATEVER THE BUILDER HOLDS. (LAID: no walk: one application.) -/
theorem Tryz.Builder_String_any (B b : Nat) (l : List UInt8) (w : World) (h : Lib.IsBuilder 69 5 B b (Lib.byteCells l) w) (hBw : B ≤ w.heap.size) :
    Calls Tryz.prog 26 #[.pointer (some ⟨b, 0, none⟩)] w fun e w' => e = .returned (.string ⟨l.toArray⟩) ∧ Below B w w' := Any.Builder_String_any Tryz.lays169 Tryz.Builder_Extra_169 B b l w h hBw
def Tryz.lays156_ren : Go.Shelf.Ren := ⟨fun | 156 => 58 | 165 => 74 | 166 => 23 | 169 => 26 | 240 => 40 | 241 => 93 | 276 => 56 | 277 => 105 | n => n, fun | 31 => 29 | 9 => 9 | 3 => 3 | 4 => 4 | 0 => 0 | 20 => 20 | 72 => 69 | 76 => 72 | 70 => 67 | 37 => 45 | 75 => 71 | 127 => 90 | 164 => 95 | 5 => 5 | 80 => 76 | n => n, fun | n => n⟩
theorem Tryz.lays156 : Go.Proofs.Lays.n156 Tryz.prog Tryz.lays156_ren := {
  mixed := by kernel_rfl
  f156 := Tryz.func58.trans (congrArg some (by kernel_rfl))
  f165 := Tryz.func74.trans (congrArg some (by kernel_rfl))
  f166 := Tryz.func23.trans (congrArg some (by kernel_rfl))
  f169 := Tryz.func26.trans (congrArg some (by kernel_rfl))
  f240 := Tryz.func40.trans (congrArg some (by kernel_rfl))
  f241 := Tryz.func93.trans (congrArg some (by kernel_rfl))
  f276 := Tryz.func56.trans (congrArg some (by kernel_rfl))
  f277 := Tryz.func105.trans (congrArg some (by kernel_rfl))
  t0 := Tryz.underlying0
  a0 := Tryz.isAgg0
  z0 := Tryz.sizeOf0
  v0 := Tryz.zeroValue0
  t3 := Tryz.underlying3
  a3 := Tryz.isAgg3
  z3 := Tryz.sizeOf3
  v3 := Tryz.zeroValue3
  t4 := Tryz.underlying4
  a4 := Tryz.isAgg4
  z4 := Tryz.sizeOf4
  v4 := Tryz.zeroValue4
  t9 := Tryz.underlying9
  a9 := Tryz.isAgg9
  z9 := Tryz.sizeOf9
  v9 := Tryz.zeroValue9
  t20 := Tryz.underlying20
  a20 := Tryz.isAgg20
  z20 := Tryz.sizeOf20
  v20 := Tryz.zeroValue20
  t31 := Tryz.underlying29
  a31 := Tryz.isAgg29
  z31 := Tryz.sizeOf29
  v31 := Tryz.zeroValue29
  t37 := Tryz.underlying45
  a37 := Tryz.isAgg45
  z37 := Tryz.sizeOf45
  v37 := Tryz.zeroValue45
  t70 := Tryz.underlying67
  a70 := Tryz.isAgg67
  z70 := Tryz.sizeOf67
  v70 := Tryz.zeroValue67
  t72 := Tryz.underlying69
  a72 := Tryz.isAgg69
  z72 := Tryz.sizeOf69
  v72 := Tryz.zeroValue69
  t75 := Tryz.underlying71
  a75 := Tryz.isAgg71
  z75 := Tryz.sizeOf71
  v75 := Tryz.zeroValue71
  t76 := Tryz.underlying72
  a76 := Tryz.isAgg72
  z76 := Tryz.sizeOf72
  v76 := Tryz.zeroValue72
  t127 := Tryz.underlying90
  a127 := Tryz.isAgg90
  z127 := Tryz.sizeOf90
  v127 := Tryz.zeroValue90
  t164 := Tryz.underlying95
  a164 := Tryz.isAgg95
  z164 := Tryz.sizeOf95
  v164 := Tryz.zeroValue95 }
theorem Tryz.Builder_Extra_156 : Builder.Extra Tryz.prog Tryz.lays156_ren := {
  sizeBuilder := by kernel_rfl
  liesBuilder := by kernel_rfl
  t5 := Tryz.underlying5
  a5 := Tryz.isAgg5
  z5 := Tryz.sizeOf5
  v5 := Tryz.zeroValue5
  infoByte := by kernel_rfl
  cellsByte := by kernel_rfl
  sizeByte := by kernel_rfl
  neB5 := by decide }
open Go.RowKit in
/-- No element: the empty string; the world is as it was. (Whatever the slice's address and capacity: a nil slice too.) (LAID: no walk: one application.) -/
theorem Tryz.strings_Join_none (a : Option Addr) (c : Nat) (sep : ByteArray) (w : World) :
    Calls Tryz.prog 58 #[.slice a 0 c, .string sep] w fun e w' => e = .returned (.string ⟨#[]⟩) ∧ w' = w := Any.strings_Join_none Tryz.lays156 Tryz.Builder_Extra_156 a c sep w
open Go.RowKit in
/-- strings.Join: "Join concatenates the elements of its first argument to create a single string. The separator string sep is placed between elements in the resulting string.": HOWEVER MANY ELEMENTS. Below the heap's end the world is as it was. (LAID: no walk: one application.) -/
theorem Tryz.strings_Join (bk o c : Nat) (xs : List ByteArray) (sep : ByteArray) (w : World) (hcells : ∀ (j : Nat) x, xs[j]? = some x → w.cell? ⟨bk, o + j, none⟩ = some (.string x)) (hbk : bk < w.heap.size) (hN : xs.length ≤ 140737488355328) (hcap : xs.length ≤ c) (hlen : (Lib.join (xs.map (·.data.toList)) sep.data.toList).length ≤ 140737488355328) :
    Calls Tryz.prog 58 #[.slice (some ⟨bk, o, none⟩) xs.length c, .string sep] w fun e w' => e = .returned (.string ⟨(Lib.join (xs.map (·.data.toList)) sep.data.toList).toArray⟩) ∧ Below w.heap.size w w' := Any.strings_Join Tryz.lays156 Tryz.Builder_Extra_156 bk o c xs sep w hcells hbk hN hcap hlen
def Tryz.laysM171_ren : Go.Shelf.Ren := ⟨fun | 171 => 42 | 243 => 57 | 246 => 73 | 283 => 89 | 284 => 90 | 285 => 91 | 286 => 92 | 129 => 101 | 317 => 100 | 318 => 102 | 319 => 103 | 320 => 104 | 337 => 109 | 338 => 110 | n => n, fun | 3 => 3 | 9 => 9 | 2 => 2 | 4 => 4 | 171 => 119 | 0 => 0 | 53 => 120 | 37 => 45 | 5 => 5 | 173 => 123 | 212 => 139 | 51 => 131 | 20 => 20 | 213 => 140 | 46 => 49 | 232 => 150 | 233 => 151 | n => n, fun | 17 => 5 | 18 => 6 | 19 => 7 | n => n⟩
theorem Tryz.laysM171 : Go.Proofs.LaysM.n171 Tryz.prog Tryz.laysM171_ren := {
  mixed := by kernel_rfl
  f129 := Tryz.func101.trans (congrArg some (by kernel_rfl))
  f171 := Tryz.func42.trans (congrArg some (by kernel_rfl))
  f243 := Tryz.func57.trans (congrArg some (by kernel_rfl))
  f246 := Tryz.func73.trans (congrArg some (by kernel_rfl))
  f283 := Tryz.func89.trans (congrArg some (by kernel_rfl))
  f284 := Tryz.func90.trans (congrArg some (by kernel_rfl))
  f285 := Tryz.func91.trans (congrArg some (by kernel_rfl))
  f286 := Tryz.func92.trans (congrArg some (by kernel_rfl))
  f317 := Tryz.func100.trans (congrArg some (by kernel_rfl))
  f318 := Tryz.func102.trans (congrArg some (by kernel_rfl))
  f319 := Tryz.func103.trans (congrArg some (by kernel_rfl))
  f320 := Tryz.func104.trans (congrArg some (by kernel_rfl))
  f337 := Tryz.func109.trans (congrArg some (by kernel_rfl))
  f338 := Tryz.func110.trans (congrArg some (by kernel_rfl))
  t0 := Tryz.underlying0
  a0 := Tryz.isAgg0
  z0 := Tryz.sizeOf0
  v0 := Tryz.zeroValue0
  t2 := Tryz.underlying2
  a2 := Tryz.isAgg2
  z2 := Tryz.sizeOf2
  v2 := Tryz.zeroValue2
  t3 := Tryz.underlying3
  a3 := Tryz.isAgg3
  z3 := Tryz.sizeOf3
  v3 := Tryz.zeroValue3
  t4 := Tryz.underlying4
  a4 := Tryz.isAgg4
  z4 := Tryz.sizeOf4
  v4 := Tryz.zeroValue4
  t5 := Tryz.underlying5
  a5 := Tryz.isAgg5
  z5 := Tryz.sizeOf5
  v5 := Tryz.zeroValue5
  t9 := Tryz.underlying9
  a9 := Tryz.isAgg9
  z9 := Tryz.sizeOf9
  v9 := Tryz.zeroValue9
  t20 := Tryz.underlying20
  a20 := Tryz.isAgg20
  z20 := Tryz.sizeOf20
  v20 := Tryz.zeroValue20
  t37 := Tryz.underlying45
  a37 := Tryz.isAgg45
  z37 := Tryz.sizeOf45
  v37 := Tryz.zeroValue45
  t46 := Tryz.underlying49
  a46 := Tryz.isAgg49
  z46 := Tryz.sizeOf49
  v46 := Tryz.zeroValue49
  t51 := Tryz.underlying131
  a51 := Tryz.isAgg131
  z51 := Tryz.sizeOf131
  v51 := Tryz.zeroValue131
  t53 := Tryz.underlying120
  a53 := Tryz.isAgg120
  z53 := Tryz.sizeOf120
  v53 := Tryz.zeroValue120
  t171 := Tryz.underlying119
  a171 := Tryz.isAgg119
  z171 := Tryz.sizeOf119
  v171 := Tryz.zeroValue119
  t173 := Tryz.underlying123
  a173 := Tryz.isAgg123
  z173 := Tryz.sizeOf123
  v173 := Tryz.zeroValue123
  t212 := Tryz.underlying139
  a212 := Tryz.isAgg139
  z212 := Tryz.sizeOf139
  v212 := Tryz.zeroValue139
  t213 := Tryz.underlying140
  a213 := Tryz.isAgg140
  z213 := Tryz.sizeOf140
  t232 := Tryz.underlying150
  a232 := Tryz.isAgg150
  z232 := Tryz.sizeOf150
  v232 := Tryz.zeroValue150
  t233 := Tryz.underlying151
  a233 := Tryz.isAgg151
  z233 := Tryz.sizeOf151
  v233 := Tryz.zeroValue151
  g17 := by kernel_rfl
  g18 := by kernel_rfl
  g19 := by kernel_rfl
  i0 := by kernel_rfl
  i2 := by kernel_rfl
  i3 := by kernel_rfl
  i4 := by kernel_rfl
  i5 := by kernel_rfl
  i9 := by kernel_rfl
  i20 := by kernel_rfl
  i37 := by kernel_rfl
  i46 := by kernel_rfl
  i51 := by kernel_rfl
  i53 := by kernel_rfl
  i171 := by kernel_rfl
  i173 := by kernel_rfl
  i212 := by kernel_rfl
  i232 := by kernel_rfl
  i233 := by kernel_rfl
  m17 := by kernel_rfl
  m18 := by kernel_rfl
  m19 := by kernel_rfl }
open Go.RowKit Go.Sort Go.Lib in
/-- strconv.Itoa: "Itoa is equivalent to FormatInt(int64(i), 10).": i's DECIMAL NUMERAL ('Lib.itoa': a '-' where i is negative, then the digits), FOR EVERY int. The world behind the call: the world before it, new blocks behind the heap (the library's 'var a [24]byte'), draws. (LAID: no walk: one application.) -/
theorem Tryz.strconv_Itoa (n : Int) (h0 : -9223372036854775808 ≤ n) (h1 : n ≤ 9223372036854775807) (w : World) (htab : Lib.TabIs Tryz.prog w "internal/strconv.uint64pow10" .u64 Lib.pow10Tab) :
    Calls Tryz.prog 42 #[.int .i64 n] w fun e w' => e = .returned (.string ⟨(Lib.itoa n).toArray⟩) ∧ ∃ k os, w' = grow (w.drewN k) os := Any.strconv_Itoa Tryz.laysM171 n h0 h1 w htab
def Tryz.lays171_ren : Go.Shelf.Ren := ⟨fun | 171 => 42 | 243 => 57 | 246 => 73 | 283 => 89 | 284 => 90 | 285 => 91 | 286 => 92 | 129 => 101 | 317 => 100 | 318 => 102 | 319 => 103 | 320 => 104 | 337 => 109 | 338 => 110 | n => n, fun | 3 => 3 | 9 => 9 | 2 => 2 | 4 => 4 | 171 => 119 | 0 => 0 | 53 => 120 | 37 => 45 | 5 => 5 | 173 => 123 | 212 => 139 | 51 => 131 | 20 => 20 | 213 => 140 | 46 => 49 | 232 => 150 | 233 => 151 | n => n, fun | 17 => 5 | 18 => 6 | 19 => 7 | n => n⟩
theorem Tryz.lays171 : Go.Proofs.Lays.n171 Tryz.prog Tryz.lays171_ren := {
  mixed := by kernel_rfl
  f129 := Tryz.func101.trans (congrArg some (by kernel_rfl))
  f171 := Tryz.func42.trans (congrArg some (by kernel_rfl))
  f243 := Tryz.func57.trans (congrArg some (by kernel_rfl))
  f246 := Tryz.func73.trans (congrArg some (by kernel_rfl))
  f283 := Tryz.func89.trans (congrArg some (by kernel_rfl))
  f284 := Tryz.func90.trans (congrArg some (by kernel_rfl))
  f285 := Tryz.func91.trans (congrArg some (by kernel_rfl))
  f286 := Tryz.func92.trans (congrArg some (by kernel_rfl))
  f317 := Tryz.func100.trans (congrArg some (by kernel_rfl))
  f318 := Tryz.func102.trans (congrArg some (by kernel_rfl))
  f319 := Tryz.func103.trans (congrArg some (by kernel_rfl))
  f320 := Tryz.func104.trans (congrArg some (by kernel_rfl))
  f337 := Tryz.func109.trans (congrArg some (by kernel_rfl))
  f338 := Tryz.func110.trans (congrArg some (by kernel_rfl))
  t0 := Tryz.underlying0
  a0 := Tryz.isAgg0
  z0 := Tryz.sizeOf0
  v0 := Tryz.zeroValue0
  t2 := Tryz.underlying2
  a2 := Tryz.isAgg2
  z2 := Tryz.sizeOf2
  v2 := Tryz.zeroValue2
  t3 := Tryz.underlying3
  a3 := Tryz.isAgg3
  z3 := Tryz.sizeOf3
  v3 := Tryz.zeroValue3
  t4 := Tryz.underlying4
  a4 := Tryz.isAgg4
  z4 := Tryz.sizeOf4
  v4 := Tryz.zeroValue4
  t5 := Tryz.underlying5
  a5 := Tryz.isAgg5
  z5 := Tryz.sizeOf5
  v5 := Tryz.zeroValue5
  t9 := Tryz.underlying9
  a9 := Tryz.isAgg9
  z9 := Tryz.sizeOf9
  v9 := Tryz.zeroValue9
  t20 := Tryz.underlying20
  a20 := Tryz.isAgg20
  z20 := Tryz.sizeOf20
  v20 := Tryz.zeroValue20
  t37 := Tryz.underlying45
  a37 := Tryz.isAgg45
  z37 := Tryz.sizeOf45
  v37 := Tryz.zeroValue45
  t46 := Tryz.underlying49
  a46 := Tryz.isAgg49
  z46 := Tryz.sizeOf49
  v46 := Tryz.zeroValue49
  t51 := Tryz.underlying131
  a51 := Tryz.isAgg131
  z51 := Tryz.sizeOf131
  v51 := Tryz.zeroValue131
  t53 := Tryz.underlying120
  a53 := Tryz.isAgg120
  z53 := Tryz.sizeOf120
  v53 := Tryz.zeroValue120
  t171 := Tryz.underlying119
  a171 := Tryz.isAgg119
  z171 := Tryz.sizeOf119
  v171 := Tryz.zeroValue119
  t173 := Tryz.underlying123
  a173 := Tryz.isAgg123
  z173 := Tryz.sizeOf123
  v173 := Tryz.zeroValue123
  t212 := Tryz.underlying139
  a212 := Tryz.isAgg139
  z212 := Tryz.sizeOf139
  v212 := Tryz.zeroValue139
  t213 := Tryz.underlying140
  a213 := Tryz.isAgg140
  z213 := Tryz.sizeOf140
  t232 := Tryz.underlying150
  a232 := Tryz.isAgg150
  z232 := Tryz.sizeOf150
  v232 := Tryz.zeroValue150
  t233 := Tryz.underlying151
  a233 := Tryz.isAgg151
  z233 := Tryz.sizeOf151
  v233 := Tryz.zeroValue151
  g17 := by kernel_rfl
  g18 := by kernel_rfl
  g19 := by kernel_rfl }
open Go.RowKit Go.Sort Go.Lib in
/-- THE ROAD WITHOUT THE TABLE: 0 <= i < 100: NO PREMISE ON THE WORLD, AND THE WORLD IS AS IT WAS: a row that keeps its argument in that range need list no table ('laid = []'). (LAID: no walk: one application.) -/
theorem Tryz.strconv_Itoa_small (i : Nat) (hi : i < 100) (w : World) :
    Calls Tryz.prog 42 #[.int .i64 i] w fun e w' => e = .returned (.string ⟨(Lib.decDigits i).toArray⟩) ∧ w' = w := Any.strconv_Itoa_small Tryz.lays171 i hi w
end Go.Proofs
end
section
/- The told calls, at this program. -/
namespace Go.Fw.Ro
open Go Go.Fw Go.RowKit Go.Proofs Go.Shelf
set_option maxRecDepth 100000
theorem told_ok : Told Tryz.prog n_internal_bytealg_IndexByteString n_internal_bytealg_CountString n_strings_Join where
  eib := ⟨_, Tryz.func88, by kernel_rfl, by kernel_rfl, by kernel_rfl, by kernel_rfl⟩
  ecs := ⟨_, Tryz.func50, by kernel_rfl, by kernel_rfl, by kernel_rfl, by kernel_rfl⟩
  ejn := ⟨_, Tryz.func58, by kernel_rfl, by kernel_rfl⟩
  join0 := fun a c sep w => Tryz.strings_Join_none a c sep w
  join := fun bk o c xs sep w h1 h2 h3 h4 h5 => Tryz.strings_Join bk o c xs sep w h1 h2 h3 h4 h5
theorem told_ok2 : ToldR Tryz.prog n_strconv_Itoa n_strings_Builder_copyCheck n_strings_Builder_String ty_strings_Builder ty_uint8 where
  eit := ⟨_, Tryz.func42, by kernel_rfl, by kernel_rfl⟩
  ecc := ⟨_, Tryz.func40, by kernel_rfl, by kernel_rfl⟩
  est := ⟨_, Tryz.func26, by kernel_rfl, by kernel_rfl⟩
  itoa := fun i h w => Tryz.strconv_Itoa_small i h w
  glt := of_decide_eq_true (by kernel_rfl)
  itoaT := fun i h w cs t fr h1 h2 => (Tryz.strconv_Itoa i (by omega) (by omega) w (by
    have e : Tryz.prog.globalNamed "internal/strconv.uint64pow10" = some gPow := by kernel_rfl
    unfold Lib.TabIs World.var?
    rw [e, Option.bind_some, h1, ← h2])).mono fun e w' ⟨k1, k, os, k2⟩ => ⟨by rw [k1]; simp [Lib.itoa], by rw [k2]; exact Lib.below_grow _ w (Nat.le_refl _) k os⟩
  copy := fun b w h1 h2 h3 => Any.Builder_copyCheck_fresh (P := Tryz.prog) (ρ := Tryz.lays156_ren) { Tryz.lays156 with } Tryz.Builder_Extra_156.toX72 b w h1 h2 h3
  str0 := fun b w h => builder_string0 (P := Tryz.prog) (ρ := Tryz.lays169_ren) Tryz.lays169 Tryz.Builder_Extra_169 b w h
  str := fun b g cap n l w h0 h1 h2 h3 h4 h5 h6 => builder_string (P := Tryz.prog) (ρ := Tryz.lays169_ren) Tryz.lays169 Tryz.Builder_Extra_169 b g cap n l w h0 h1 h2 h3 h4 h5 h6
theorem X_ok {B : Bd} {w0 : World} : CallOK Tryz.prog B w0 S.X := Xr_ok told_ok told_ok2
end Go.Fw.Ro
end
section
/- The system's functions are the program's (printed by mkk.py). -/
namespace Go.Fw.Ro
open Go Go.Fw Go.Proofs
set_option maxRecDepth 100000
theorem fT_all : T.allP (fun f af => compF Tryz.prog f = some af) fT (fun k => k) := ⟨trivial, ⟨trivial, ⟨trivial, ⟨trivial, ⟨c_entailref1_Name, ⟨c_role_number, ⟨c_strings_trimRightASCII, trivial, trivial⟩, trivial⟩, ⟨c_atom_first, trivial, trivial⟩⟩, ⟨c_strings_Builder_WriteString, ⟨c_entaillaw1_Nm, ⟨c_internal_stringslite_TrimSuffix, trivial, trivial⟩, trivial⟩, ⟨c_strings_IndexByte, ⟨c_internal_stringslite_HasSuffix, trivial, trivial⟩, trivial⟩⟩⟩, ⟨trivial, ⟨trivial, ⟨c_line_bare, ⟨c_strconv_toError, trivial, trivial⟩, trivial⟩, ⟨c_strings_Index, trivial, trivial⟩⟩, ⟨c_slices_EqualFunc_api_Fact_api_Fact_api_Fact_api_Fact, ⟨c_line_Join, ⟨c_strings_asciiSet_contains, trivial, trivial⟩, trivial⟩, ⟨c_strings_trimLeftByte, trivial, trivial⟩⟩⟩⟩, ⟨c_entaillaw13_awake, ⟨c_role_Parse, ⟨c__role_form_fill, ⟨c_strings_Count, trivial, trivial⟩, trivial⟩, ⟨c_strings_Builder_Len, ⟨c_role_keyword, trivial, trivial⟩, trivial⟩⟩, ⟨c_role_Text, ⟨trivial, ⟨c_line_words, ⟨c_strings_splitSeq_1, trivial, trivial⟩, trivial⟩, ⟨c_strings_TrimSuffix, trivial, trivial⟩⟩, ⟨c_entailref1_SameTexts, ⟨c_strings_Trim, trivial, trivial⟩, ⟨c_strings_makeASCIISet, trivial, trivial⟩⟩⟩⟩⟩, ⟨trivial, ⟨c_entaillaw13_RoleBack, ⟨trivial, ⟨c_role_formOf, ⟨c_atom_Name, trivial, trivial⟩, ⟨c_atom_plain, trivial, trivial⟩⟩, ⟨c_role_told, ⟨c_strings_Builder_copyCheck, ⟨c_internal_stringslite_IndexByte, trivial, trivial⟩, trivial⟩, trivial⟩⟩, ⟨c_entaillaw13_File, ⟨c_line_Lines, ⟨c_line_wrong, ⟨c_internal_stringslite_Index, trivial, trivial⟩, trivial⟩, ⟨c_strings_splitSeq, trivial, trivial⟩⟩, ⟨c_role_same, ⟨c_slices_Equal_string_string, trivial, trivial⟩, ⟨c_strings_trimRightByte, trivial, trivial⟩⟩⟩⟩, ⟨c_role_Fact, ⟨trivial, ⟨trivial, ⟨c_strings_SplitSeq, ⟨c_internal_strconv_Atoi, trivial, trivial⟩, trivial⟩, trivial⟩, ⟨c_strings_Builder_String, trivial, trivial⟩⟩, ⟨c_entailref13_SameFacts, ⟨c_entaillaw13_Line, trivial, ⟨c_strings_Contains, trivial, trivial⟩⟩, ⟨c_entailref1_alnum, ⟨c_strconv_Atoi, trivial, trivial⟩, ⟨c_strings_trimLeftASCII, trivial, trivial⟩⟩⟩⟩⟩⟩
theorem F_ok : ∀ f af, S.F f = some af → compF Tryz.prog f = some af := fun f af h => T.allP_get fT_all f af h
end Go.Fw.Ro
end
