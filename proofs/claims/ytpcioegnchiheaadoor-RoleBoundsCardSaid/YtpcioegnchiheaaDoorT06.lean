/- Lemmas for the law's proof, part 6. -/
import Derived.Test.YtpcioegnchiheaaDoorT05
import Derived.Test.YtpcioegnchiheaaDoorT04
import Derived.Test.YtpcioegnchiheaaDoorT03
import Derived.Shelf.Strings.Builder1
import Derived.Shelf.Strings.OnBuilder
import Derived.Shelf.Strconv.Itoa3
import Derived.Shelf.LaysM
import Derived.Test.YtpcioegnchiheaaDoorProg
set_option linter.unusedSimpArgs false
set_option linter.unusedVariables false
set_option linter.constructorNameAsVariable false
set_option linter.unnecessarySimpa false
section
/- Facts, whether they are the same. -/
namespace Go.Fw.Ro
open Go Go.Fw Go.Fw.Sys
set_option maxRecDepth 100000
variable {H : Mem} {K : AV → Mem → Prop}
theorem Equal_loop {v w : AV} {xs ys : List (List UInt8)} {Q : Ex → Tr → Mem → Prop} (hv : SlR 1 Rs H.get v xs) (hw : SlR 1 Rs H.get w ys) (hl : xs.length = ys.length) (hn : xs.length ≤ 1000000) : ∀ (r t : List (List UInt8)) (i : Nat) (f : Nat → AV), xs.drop i = r → ys.drop i = t → i + r.length = xs.length → f 0 = v → f 1 = w → f 12 = .i .i64 xs.length → f 13 = .i .i64 i →
    (∀ f', r ≠ t → f' 4 = .b false → Q .rt (trO 26 f') H) → (∀ f', r = t → Q (.ex 0) (trO 26 f') H) → @W S false (.loop lp_slices_Equal_string_string_0) (trO 26 f) H ⟨Q⟩ := by
  intro r
  induction r with
  | nil =>
    intro t i f h1 h2 h3 f0 f1 f12 f13 k1 k2
    simp at h3
    have : t = [] := by rw [← h2]; exact List.drop_eq_nil_of_le (by omega)
    rw [w_loop]
    unfold lp_slices_Equal_string_string_0
    simp (disch := first | omega | (simp only [List.length_cons, List.length_nil, true_and, and_true, nx_push, nx_put, nx_mark]; done) | (simp only [List.length_cons, List.length_nil, true_and, and_true, nx_push, nx_put, nx_mark]; omega)) only [go_sem, ↓reduceIte, Nat.reduceAdd, Nat.reduceMul, Nat.reduceSub, Int.reduceToNat, UInt8.reduceToNat, Nat.reduceLeDiff, Nat.reduceEqDiff, Nat.sub_zero, Int.add_zero, Int.zero_add, Nat.add_zero, Nat.zero_add, Nat.zero_mul, f0, f1, f12, f13]
    exact atQ 26 rfl (k2 _ this.symm)
  | cons x r ih =>
    intro t i f h1 h2 h3 f0 f1 f12 f13 k1 k2
    simp at h3
    cases t with
    | nil => have := congrArg List.length h2; simp at this; omega
    | cons y t =>
      have hx : xs[i]? = some x := by rw [← List.head?_drop, h1]; rfl
      have hy : ys[i]? = some y := by rw [← List.head?_drop, h2]; rfl
      have hr1 : xs.drop (i + 1) = r := by rw [← List.drop_drop, h1]; rfl
      have ht1 : ys.drop (i + 1) = t := by rw [← List.drop_drop, h2]; rfl
      obtain ⟨id, p, c, y1, y2, y3, y4, y5, y6⟩ := hv.at_ hx
      obtain ⟨jd, q, d, z1, z2, z3, z4, z5, z6⟩ := hw.at_ hy
      simp only [Rs] at y2 z2
      subst y2 z2
      have y7 : ldO (H.get id) false 1 p = some (.s x) := y3 0 (by omega)
      have z7 : ldO (H.get jd) false 1 q = some (.s y) := z3 0 (by omega)
      rw [w_loop]
      unfold lp_slices_Equal_string_string_0
      simp (disch := first | omega | (simp only [List.length_cons, List.length_nil, true_and, and_true, nx_push, nx_put, nx_mark]; done) | (simp only [List.length_cons, List.length_nil, true_and, and_true, nx_push, nx_put, nx_mark]; omega)) only [go_sem, ↓reduceIte, Nat.reduceAdd, Nat.reduceMul, Nat.reduceSub, Int.reduceToNat, UInt8.reduceToNat, Nat.reduceLeDiff, Nat.reduceEqDiff, Nat.sub_zero, Int.add_zero, Int.zero_add, Nat.add_zero, Nat.zero_add, Nat.zero_mul, f0, f1, f12, f13]
      refine w_dregA rfl rfl ?_
      simp (disch := first | omega | (simp only [List.length_cons, List.length_nil, true_and, and_true, nx_push, nx_put, nx_mark]; done) | (simp only [List.length_cons, List.length_nil, true_and, and_true, nx_push, nx_put, nx_mark]; omega)) only [go_sem, ↓reduceIte, Nat.reduceAdd, Nat.reduceMul, Nat.reduceSub, Int.reduceToNat, UInt8.reduceToNat, Nat.reduceLeDiff, Nat.reduceEqDiff, Nat.sub_zero, Int.add_zero, Int.zero_add, Nat.add_zero, Nat.zero_add, Nat.zero_mul, f0, f1, f12, f13, y1, y7, z1, z7]
      refine cnd_dec (fun hne => ?_) (fun he => ?_)
      · simp (disch := first | omega | (simp only [List.length_cons, List.length_nil, true_and, and_true, nx_push, nx_put, nx_mark]; done) | (simp only [List.length_cons, List.length_nil, true_and, and_true, nx_push, nx_put, nx_mark]; omega)) only [go_sem, ↓reduceIte, Nat.reduceAdd, Nat.reduceMul, Nat.reduceSub, Int.reduceToNat, UInt8.reduceToNat, Nat.reduceLeDiff, Nat.reduceEqDiff, Nat.sub_zero, Int.add_zero, Int.zero_add, Nat.add_zero, Nat.zero_add, Nat.zero_mul]
        exact atQ 26 rfl (k1 _ (fun e => hne (List.cons.inj e).1) rfl)
      · simp (disch := first | omega | (simp only [List.length_cons, List.length_nil, true_and, and_true, nx_push, nx_put, nx_mark]; done) | (simp only [List.length_cons, List.length_nil, true_and, and_true, nx_push, nx_put, nx_mark]; omega)) only [go_sem, ↓reduceIte, Nat.reduceAdd, Nat.reduceMul, Nat.reduceSub, Int.reduceToNat, UInt8.reduceToNat, Nat.reduceLeDiff, Nat.reduceEqDiff, Nat.sub_zero, Int.add_zero, Int.zero_add, Nat.add_zero, Nat.zero_add, Nat.zero_mul]
        have he : x = y := Decidable.byContradiction he
        refine atW 26 rfl (ih t (i + 1) _ hr1 ht1 (by omega) rfl rfl rfl rfl (fun f' a b => k1 f' (fun e => a (List.cons.inj e).2) b) (fun f' a => k2 f' (by rw [he, a])))
theorem Equal_run {v w : AV} {xs ys : List (List UInt8)} (hv : SlR 1 Rs H.get v xs) (hw : SlR 1 Rs H.get w ys) (hn : xs.length ≤ 1000000) (h : K (.b (decide (xs = ys))) H) : @R S (.f n_slices_Equal_string_string) [v, w] H ⟨K⟩ := by
  refine run_fn2 rfl rfl ?_
  unfold bd_slices_Equal_string_string
  have l1 := hv.len
  have l2 := hw.len
  simp (disch := first | omega | (simp only [List.length_cons, List.length_nil, true_and, and_true, nx_push, nx_put, nx_mark]; done) | (simp only [List.length_cons, List.length_nil, true_and, and_true, nx_push, nx_put, nx_mark]; omega)) only [go_sem, ↓reduceIte, Nat.reduceAdd, Nat.reduceMul, Nat.reduceSub, Int.reduceToNat, UInt8.reduceToNat, Nat.reduceLeDiff, Nat.reduceEqDiff, Nat.sub_zero, Int.add_zero, Int.zero_add, Nat.add_zero, Nat.zero_add, Nat.zero_mul, l1, l2]
  by_cases hl : xs.length = ys.length
  · have hl' : (xs.length : Int) = ys.length := by omega
    simp (disch := first | omega | (simp only [List.length_cons, List.length_nil, true_and, and_true, nx_push, nx_put, nx_mark]; done) | (simp only [List.length_cons, List.length_nil, true_and, and_true, nx_push, nx_put, nx_mark]; omega)) only [go_sem, ↓reduceIte, Nat.reduceAdd, Nat.reduceMul, Nat.reduceSub, Int.reduceToNat, UInt8.reduceToNat, Nat.reduceLeDiff, Nat.reduceEqDiff, Nat.sub_zero, Int.add_zero, Int.zero_add, Nat.add_zero, Nat.zero_add, Nat.zero_mul, l1, l2]
    refine atW 26 rfl (Equal_loop (H := H.mark []) hv hw hl hn xs ys 0 _ rfl rfl (by omega) rfl rfl rfl rfl (fun f' a b => ?_) (fun f' a => ?_))
    · simp (disch := first | omega | (simp only [List.length_cons, List.length_nil, true_and, and_true, nx_push, nx_put, nx_mark]; done) | (simp only [List.length_cons, List.length_nil, true_and, and_true, nx_push, nx_put, nx_mark]; omega)) only [go_sem, ↓reduceIte, Nat.reduceAdd, Nat.reduceMul, Nat.reduceSub, Int.reduceToNat, UInt8.reduceToNat, Nat.reduceLeDiff, Nat.reduceEqDiff, Nat.sub_zero, Int.add_zero, Int.zero_add, Nat.add_zero, Nat.zero_add, Nat.zero_mul, b]
      exact kb (by simp [a]) h
    · simp (disch := first | omega | (simp only [List.length_cons, List.length_nil, true_and, and_true, nx_push, nx_put, nx_mark]; done) | (simp only [List.length_cons, List.length_nil, true_and, and_true, nx_push, nx_put, nx_mark]; omega)) only [go_sem, ↓reduceIte, Nat.reduceAdd, Nat.reduceMul, Nat.reduceSub, Int.reduceToNat, UInt8.reduceToNat, Nat.reduceLeDiff, Nat.reduceEqDiff, Nat.sub_zero, Int.add_zero, Int.zero_add, Nat.add_zero, Nat.zero_add, Nat.zero_mul]
      exact kb (by simp [a]) h
  · have ne : xs ≠ ys := fun e => hl (by rw [e])
    simp (disch := first | omega | (simp only [List.length_cons, List.length_nil, true_and, and_true, nx_push, nx_put, nx_mark]; done) | (simp only [List.length_cons, List.length_nil, true_and, and_true, nx_push, nx_put, nx_mark]; omega)) only [go_sem, ↓reduceIte, Nat.reduceAdd, Nat.reduceMul, Nat.reduceSub, Int.reduceToNat, UInt8.reduceToNat, Nat.reduceLeDiff, Nat.reduceEqDiff, Nat.sub_zero, Int.add_zero, Int.zero_add, Nat.add_zero, Nat.zero_add, Nat.zero_mul, l1, l2]
    exact kb (by simp [ne]) h
def sameF (x y : FactT) : Bool := decide (x.kind = y.kind) && decide (x.A = y.A) && decide (x.B = y.B) && decide (x.C = y.C) && decide (x.N = y.N) && decide (x.L = y.L)
theorem same_run {c d : List AV} {x y : FactT} (hc : Rfact H.get c x) (hd : Rfact H.get d y) (hw : Wf H) (hn : x.L.length ≤ 1000000) (h : ∀ H', Ext H.next H H' → K (.b (sameF x y)) H') : @R S (.f n_role_same) [.agg c, .agg d] H ⟨K⟩ := by
  obtain ⟨g, rfl, gr⟩ := hc
  obtain ⟨g', rfl, gr'⟩ := hd
  have g1 := gr.one
  have g2 := gr'.one
  refine run_fn2 rfl rfl ?_
  unfold bd_role_same
  simp only [factC]
  have hx : ∀ o o', Ext H.next (H.mark []) (((H.mark []).push o).push o') := fun o o' => (((Ext.refl (H := H.mark []) hw).push _ (Nat.le_refl _)).push _ (by first | omega | (simp only [nx_push, nx_put, nx_mark]; done) | (simp only [nx_push, nx_put, nx_mark]; omega)))
  have hx' : ∀ o o', Ext H.next H ((H.push o).push o') := fun o o' => (((Ext.refl hw).push _ (Nat.le_refl _)).push _ (by first | omega | (simp only [nx_push, nx_put, nx_mark]; done) | (simp only [nx_push, nx_put, nx_mark]; omega)))
  simp (disch := first | omega | (simp only [List.length_cons, List.length_nil, true_and, and_true, nx_push, nx_put, nx_mark]; done) | (simp only [List.length_cons, List.length_nil, true_and, and_true, nx_push, nx_put, nx_mark]; omega)) only [go_sem, ↓reduceIte, Nat.reduceAdd, Nat.reduceMul, Nat.reduceSub, Int.reduceToNat, UInt8.reduceToNat, Nat.reduceLeDiff, Nat.reduceEqDiff, Nat.sub_zero, Int.add_zero, Int.zero_add, Nat.add_zero, Nat.zero_add, Nat.zero_mul, g1, g2]
  by_cases h1 : x.kind = y.kind
  · by_cases h2 : x.A = y.A
    · by_cases h3 : x.B = y.B
      · by_cases h4 : x.C = y.C
        · by_cases h5 : x.N = y.N
          · simp (disch := first | omega | (simp only [List.length_cons, List.length_nil, true_and, and_true, nx_push, nx_put, nx_mark]; done) | (simp only [List.length_cons, List.length_nil, true_and, and_true, nx_push, nx_put, nx_mark]; omega)) only [go_sem, ↓reduceIte, Nat.reduceAdd, Nat.reduceMul, Nat.reduceSub, Int.reduceToNat, UInt8.reduceToNat, Nat.reduceLeDiff, Nat.reduceEqDiff, Nat.sub_zero, Int.add_zero, Int.zero_add, Nat.add_zero, Nat.zero_add, Nat.zero_mul, h1, h2, h3, h4, h5]
            refine Equal_run ((gr.mono Rs_mono (le_up (H := H.mark []) (hx _ _) hw (Nat.le_refl _)))) ((gr'.mono Rs_mono (le_up (H := H.mark []) (hx _ _) hw (Nat.le_refl _)))) hn ?_
            have e : sameF x y = decide (x.L = y.L) := by simp [sameF, h1, h2, h3, h4, h5]
            rw [e] at h
            simp (disch := first | omega | (simp only [List.length_cons, List.length_nil, true_and, and_true, nx_push, nx_put, nx_mark]; done) | (simp only [List.length_cons, List.length_nil, true_and, and_true, nx_push, nx_put, nx_mark]; omega)) only [go_sem, ↓reduceIte, Nat.reduceAdd, Nat.reduceMul, Nat.reduceSub, Int.reduceToNat, UInt8.reduceToNat, Nat.reduceLeDiff, Nat.reduceEqDiff, Nat.sub_zero, Int.add_zero, Int.zero_add, Nat.add_zero, Nat.zero_add, Nat.zero_mul]
            exact h _ (hx' _ _)
          · have e : sameF x y = false := by simp [sameF, h5]
            rw [e] at h
            simp (disch := first | omega | (simp only [List.length_cons, List.length_nil, true_and, and_true, nx_push, nx_put, nx_mark]; done) | (simp only [List.length_cons, List.length_nil, true_and, and_true, nx_push, nx_put, nx_mark]; omega)) only [go_sem, ↓reduceIte, Nat.reduceAdd, Nat.reduceMul, Nat.reduceSub, Int.reduceToNat, UInt8.reduceToNat, Nat.reduceLeDiff, Nat.reduceEqDiff, Nat.sub_zero, Int.add_zero, Int.zero_add, Nat.add_zero, Nat.zero_add, Nat.zero_mul, h1, h2, h3, h4, h5]
            exact h _ (hx' _ _)
        · have e : sameF x y = false := by simp [sameF, h4]
          rw [e] at h
          simp (disch := first | omega | (simp only [List.length_cons, List.length_nil, true_and, and_true, nx_push, nx_put, nx_mark]; done) | (simp only [List.length_cons, List.length_nil, true_and, and_true, nx_push, nx_put, nx_mark]; omega)) only [go_sem, ↓reduceIte, Nat.reduceAdd, Nat.reduceMul, Nat.reduceSub, Int.reduceToNat, UInt8.reduceToNat, Nat.reduceLeDiff, Nat.reduceEqDiff, Nat.sub_zero, Int.add_zero, Int.zero_add, Nat.add_zero, Nat.zero_add, Nat.zero_mul, h1, h2, h3, h4]
          exact h _ (hx' _ _)
      · have e : sameF x y = false := by simp [sameF, h3]
        rw [e] at h
        simp (disch := first | omega | (simp only [List.length_cons, List.length_nil, true_and, and_true, nx_push, nx_put, nx_mark]; done) | (simp only [List.length_cons, List.length_nil, true_and, and_true, nx_push, nx_put, nx_mark]; omega)) only [go_sem, ↓reduceIte, Nat.reduceAdd, Nat.reduceMul, Nat.reduceSub, Int.reduceToNat, UInt8.reduceToNat, Nat.reduceLeDiff, Nat.reduceEqDiff, Nat.sub_zero, Int.add_zero, Int.zero_add, Nat.add_zero, Nat.zero_add, Nat.zero_mul, h1, h2, h3]
        exact h _ (hx' _ _)
    · have e : sameF x y = false := by simp [sameF, h2]
      rw [e] at h
      simp (disch := first | omega | (simp only [List.length_cons, List.length_nil, true_and, and_true, nx_push, nx_put, nx_mark]; done) | (simp only [List.length_cons, List.length_nil, true_and, and_true, nx_push, nx_put, nx_mark]; omega)) only [go_sem, ↓reduceIte, Nat.reduceAdd, Nat.reduceMul, Nat.reduceSub, Int.reduceToNat, UInt8.reduceToNat, Nat.reduceLeDiff, Nat.reduceEqDiff, Nat.sub_zero, Int.add_zero, Int.zero_add, Nat.add_zero, Nat.zero_add, Nat.zero_mul, h1, h2]
      exact h _ (hx' _ _)
  · have e : sameF x y = false := by simp [sameF, h1]
    rw [e] at h
    simp (disch := first | omega | (simp only [List.length_cons, List.length_nil, true_and, and_true, nx_push, nx_put, nx_mark]; done) | (simp only [List.length_cons, List.length_nil, true_and, and_true, nx_push, nx_put, nx_mark]; omega)) only [go_sem, ↓reduceIte, Nat.reduceAdd, Nat.reduceMul, Nat.reduceSub, Int.reduceToNat, UInt8.reduceToNat, Nat.reduceLeDiff, Nat.reduceEqDiff, Nat.sub_zero, Int.add_zero, Int.zero_add, Nat.add_zero, Nat.zero_add, Nat.zero_mul, h1]
    exact h _ (hx' _ _)
def eqFs : List FactT → List FactT → Bool
  | [], [] => true
  | x :: r, y :: t => sameF x y && eqFs r t
  | _, _ => false
theorem eqFs_len : ∀ {xs ys : List FactT}, eqFs xs ys = true → xs.length = ys.length
  | [], [], _ => rfl
  | x :: r, y :: t, h => by simp only [eqFs, Bool.and_eq_true] at h; simp [eqFs_len h.2]
  | [], _ :: _, h => by simp [eqFs] at h
  | _ :: _, [], h => by simp [eqFs] at h
theorem EqF_loop {v w : AV} {xs ys : List FactT} {H0 : Mem} {Q : Ex → Tr → Mem → Prop} (w0 : Wf H0) (hv : SlR 7 Rfact H0.get v xs) (hw : SlR 7 Rfact H0.get w ys) (hl : xs.length = ys.length) (hn : xs.length ≤ 1000000) (hL : ∀ x ∈ xs, x.L.length ≤ 1000000) : ∀ (r t : List FactT) (i : Nat) (f : Nat → AV) (H : Mem), xs.drop i = r → ys.drop i = t → i + r.length = xs.length → Ext H0.next H0 H → f 1 = w → f 2 = .fn n_role_same [] [] → f 15 = v → f 16 = .i .i64 xs.length → f 17 = .i .i64 i →
    (∀ f' H', eqFs r t = false → f' 6 = .b false → Ext H0.next H0 H' → Q .rt (trO 32 f') H') → (∀ f' H', eqFs r t = true → Ext H0.next H0 H' → Q (.ex 0) (trO 32 f') H') → @W S false (.loop lp_slices_EqualFunc_api_Fact_api_Fact_api_Fact_api_Fact_0) (trO 32 f) H ⟨Q⟩ := by
  intro r
  induction r with
  | nil =>
    intro t i f H h1 h2 h3 hx f1 f2 f15 f16 f17 k1 k2
    simp at h3
    have : t = [] := by rw [← h2]; exact List.drop_eq_nil_of_le (by omega)
    rw [w_loop]
    unfold lp_slices_EqualFunc_api_Fact_api_Fact_api_Fact_api_Fact_0
    simp (disch := first | omega | (simp only [List.length_cons, List.length_nil, true_and, and_true, nx_push, nx_put, nx_mark]; done) | (simp only [List.length_cons, List.length_nil, true_and, and_true, nx_push, nx_put, nx_mark]; omega)) only [go_sem, ↓reduceIte, Nat.reduceAdd, Nat.reduceMul, Nat.reduceSub, Int.reduceToNat, UInt8.reduceToNat, Nat.reduceLeDiff, Nat.reduceEqDiff, Nat.sub_zero, Int.add_zero, Int.zero_add, Nat.add_zero, Nat.zero_add, Nat.zero_mul, f1, f2, f15, f16, f17]
    exact atQ 32 rfl (k2 _ H (by rw [this]; rfl) hx)
  | cons x r ih =>
    intro t i f H h1 h2 h3 hE f1 f2 f15 f16 f17 k1 k2
    simp at h3
    cases t with
    | nil => have := congrArg List.length h2; simp at this; omega
    | cons y t =>
      have hx : xs[i]? = some x := by rw [← List.head?_drop, h1]; rfl
      have hy : ys[i]? = some y := by rw [← List.head?_drop, h2]; rfl
      have hr1 : xs.drop (i + 1) = r := by rw [← List.drop_drop, h1]; rfl
      have ht1 : ys.drop (i + 1) = t := by rw [← List.drop_drop, h2]; rfl
      have hlx := hL x (List.mem_of_getElem? hx)
      obtain ⟨id, p, c, y1, y2, y3, y4, y5, y6⟩ := (hv.mono Rfact_mono (le_up hE w0 (Nat.le_refl _))).at_ hx
      obtain ⟨jd, q, d, z1, z2, z3, z4, z5, z6⟩ := (hw.mono Rfact_mono (le_up hE w0 (Nat.le_refl _))).at_ hy
      obtain ⟨g, rfl, gr⟩ := y2
      obtain ⟨g', rfl, gr'⟩ := z2
      have hid := hE.wf id y6
      have hjd := hE.wf jd z6
      have g1 := gr.one
      have g2 := gr'.one
      have n0 := hE.next
      rw [w_loop]
      unfold lp_slices_EqualFunc_api_Fact_api_Fact_api_Fact_api_Fact_0
      simp only [factC] at y4 z4
      simp (disch := first | omega | (simp only [List.length_cons, List.length_nil, true_and, and_true, nx_push, nx_put, nx_mark]; done) | (simp only [List.length_cons, List.length_nil, true_and, and_true, nx_push, nx_put, nx_mark]; omega)) only [go_sem, ↓reduceIte, Nat.reduceAdd, Nat.reduceMul, Nat.reduceSub, Int.reduceToNat, UInt8.reduceToNat, Nat.reduceLeDiff, Nat.reduceEqDiff, Nat.sub_zero, Int.add_zero, Int.zero_add, Nat.add_zero, Nat.zero_add, Nat.zero_mul, f1, f2, f15, f16, f17, y1, y4, z1, z4, g1, g2]
      have hE1 : ∀ o1 o2 o3 o4, Ext H.next H ((((H.push o1).put H.next o2).push o3).put (H.next + 1) o4) := fun _ _ _ _ => ((((Ext.refl hE.wf).push _ (Nat.le_refl _)).put (Nat.le_refl _) (by first | omega | (simp only [nx_push, nx_put, nx_mark]; done) | (simp only [nx_push, nx_put, nx_mark]; omega)) _).push _ (by first | omega | (simp only [nx_push, nx_put, nx_mark]; done) | (simp only [nx_push, nx_put, nx_mark]; omega))).put (by first | omega | (simp only [nx_push, nx_put, nx_mark]; done) | (simp only [nx_push, nx_put, nx_mark]; omega)) (by first | omega | (simp only [nx_push, nx_put, nx_mark]; done) | (simp only [nx_push, nx_put, nx_mark]; omega)) _
      refine same_run (x := x) (y := y) ⟨g, rfl, gr.mono Rs_mono (le_up (hE1 _ _ _ _) hE.wf (Nat.le_refl _))⟩ ⟨g', rfl, gr'.mono Rs_mono (le_up (hE1 _ _ _ _) hE.wf (Nat.le_refl _))⟩ (hE1 _ _ _ _).wf hlx (fun H2 x2 => ?_)
      have hE2 : Ext H0.next H0 H2 := (hE.trans (hE1 _ _ _ _) n0).trans x2 (by simp only [nx_push, nx_put]; omega)
      cases hs : sameF x y with
      | false =>
        simp (disch := first | omega | (simp only [List.length_cons, List.length_nil, true_and, and_true, nx_push, nx_put, nx_mark]; done) | (simp only [List.length_cons, List.length_nil, true_and, and_true, nx_push, nx_put, nx_mark]; omega)) only [go_sem, ↓reduceIte, Nat.reduceAdd, Nat.reduceMul, Nat.reduceSub, Int.reduceToNat, UInt8.reduceToNat, Nat.reduceLeDiff, Nat.reduceEqDiff, Nat.sub_zero, Int.add_zero, Int.zero_add, Nat.add_zero, Nat.zero_add, Nat.zero_mul]
        exact atQ 32 rfl (k1 _ _ (by simp only [eqFs, hs]; rfl) rfl hE2)
      | true =>
        simp (disch := first | omega | (simp only [List.length_cons, List.length_nil, true_and, and_true, nx_push, nx_put, nx_mark]; done) | (simp only [List.length_cons, List.length_nil, true_and, and_true, nx_push, nx_put, nx_mark]; omega)) only [go_sem, ↓reduceIte, Nat.reduceAdd, Nat.reduceMul, Nat.reduceSub, Int.reduceToNat, UInt8.reduceToNat, Nat.reduceLeDiff, Nat.reduceEqDiff, Nat.sub_zero, Int.add_zero, Int.zero_add, Nat.add_zero, Nat.zero_add, Nat.zero_mul]
        have e : eqFs (x :: r) (y :: t) = eqFs r t := by simp only [eqFs, hs]; rfl
        rw [e] at k1 k2
        refine atW 32 rfl (ih t (i + 1) _ H2 hr1 ht1 (by omega) hE2 rfl rfl rfl rfl rfl k1 k2)
theorem EqF_run {v w : AV} {xs ys : List FactT} (hv : SlR 7 Rfact H.get v xs) (hy : SlR 7 Rfact H.get w ys) (hw : Wf H) (hn : xs.length ≤ 1000000) (hL : ∀ x ∈ xs, x.L.length ≤ 1000000) (h : ∀ H', Ext H.next H H' → K (.b (eqFs xs ys)) H') : @R S (.f n_slices_EqualFunc_api_Fact_api_Fact_api_Fact_api_Fact) [v, w, .fn n_role_same [] []] H ⟨K⟩ := by
  refine run_fn2 rfl rfl ?_
  unfold bd_slices_EqualFunc_api_Fact_api_Fact_api_Fact_api_Fact
  have l1 := hv.len
  have l2 := hy.len
  by_cases hl : xs.length = ys.length
  · have hl' : (xs.length : Int) = ys.length := by omega
    simp (disch := first | omega | (simp only [List.length_cons, List.length_nil, true_and, and_true, nx_push, nx_put, nx_mark]; done) | (simp only [List.length_cons, List.length_nil, true_and, and_true, nx_push, nx_put, nx_mark]; omega)) only [go_sem, ↓reduceIte, Nat.reduceAdd, Nat.reduceMul, Nat.reduceSub, Int.reduceToNat, UInt8.reduceToNat, Nat.reduceLeDiff, Nat.reduceEqDiff, Nat.sub_zero, Int.add_zero, Int.zero_add, Nat.add_zero, Nat.zero_add, Nat.zero_mul, l1, l2]
    refine atW 32 rfl (EqF_loop (H0 := H.mark []) hw hv hy hl hn hL xs ys 0 _ (H.mark []) rfl rfl (by omega) (Ext.refl (H := H.mark []) hw) rfl rfl rfl rfl rfl (fun f' H' a b c => ?_) (fun f' H' a c => ?_))
    · have hm : H'.marks = [] := c.marks
      rw [a] at h
      simp (disch := first | omega | (simp only [List.length_cons, List.length_nil, true_and, and_true, nx_push, nx_put, nx_mark]; done) | (simp only [List.length_cons, List.length_nil, true_and, and_true, nx_push, nx_put, nx_mark]; omega)) only [go_sem, ↓reduceIte, Nat.reduceAdd, Nat.reduceMul, Nat.reduceSub, Int.reduceToNat, UInt8.reduceToNat, Nat.reduceLeDiff, Nat.reduceEqDiff, Nat.sub_zero, Int.add_zero, Int.zero_add, Nat.add_zero, Nat.zero_add, Nat.zero_mul, b, hm]
      exact h _ (Ext.mark c)
    · have hm : H'.marks = [] := c.marks
      rw [a] at h
      simp (disch := first | omega | (simp only [List.length_cons, List.length_nil, true_and, and_true, nx_push, nx_put, nx_mark]; done) | (simp only [List.length_cons, List.length_nil, true_and, and_true, nx_push, nx_put, nx_mark]; omega)) only [go_sem, ↓reduceIte, Nat.reduceAdd, Nat.reduceMul, Nat.reduceSub, Int.reduceToNat, UInt8.reduceToNat, Nat.reduceLeDiff, Nat.reduceEqDiff, Nat.sub_zero, Int.add_zero, Int.zero_add, Nat.add_zero, Nat.zero_add, Nat.zero_mul, hm]
      exact h _ (Ext.mark c)
  · have e : eqFs xs ys = false := by
      cases e : eqFs xs ys with
      | false => rfl
      | true => exact absurd (eqFs_len e) hl
    rw [e] at h
    simp (disch := first | omega | (simp only [List.length_cons, List.length_nil, true_and, and_true, nx_push, nx_put, nx_mark]; done) | (simp only [List.length_cons, List.length_nil, true_and, and_true, nx_push, nx_put, nx_mark]; omega)) only [go_sem, ↓reduceIte, Nat.reduceAdd, Nat.reduceMul, Nat.reduceSub, Int.reduceToNat, UInt8.reduceToNat, Nat.reduceLeDiff, Nat.reduceEqDiff, Nat.sub_zero, Int.add_zero, Int.zero_add, Nat.add_zero, Nat.zero_add, Nat.zero_mul, l1, l2]
    exact h _ (Ext.refl hw)
end Go.Fw.Ro
end
section
/- Builders; a text of facts. -/
namespace Go.Fw.Ro
open Go Go.Fw Go.Fw.Sys
set_option maxRecDepth 100000
variable {H : Mem} {K : AV → Mem → Prop}
def Rb : Gt → List AV → UInt8 → Prop := fun _ c x => c = [.i .u8 x.toNat]
theorem Rb_mono : Mono Rb := fun _ _ _ _ _ h => h
/-- A Builder, and what it holds. -/
def BO (id : Nat) (s : List UInt8) (H : Mem) : Prop := ∃ a v, H.get id = .mem [.p a, v] 0 ty_strings_Builder true 0 ∧ (a = none ∨ a = some (id, 0)) ∧ SlO 1 ty_uint8 Rb (id + 1) H v s
theorem copy_new {id : Nat} {v : AV} (hg : H.get id = .mem [.p none, v] 0 ty_strings_Builder true 0) (h : K (.tup []) (H.put id (.mem [.p (some (id, 0)), v] 0 ty_strings_Builder true 0))) : @R S (.f n_strings_Builder_copyCheck) [.p (some (id, 0))] H ⟨K⟩ := by
  refine run_told (v := .tup []) (H' := _) ?_ h
  have SX : S.X = Xr := rfl
  rw [SX]
  unfold Xr
  have e1 : extA n_internal_bytealg_IndexByteString n_internal_bytealg_CountString n_strings_Join (.f n_strings_Builder_copyCheck) [.p (some (id, 0))] H = none := rfl
  have e2 : extR n_strconv_Itoa n_strings_Builder_copyCheck n_strings_Builder_String ty_strings_Builder ty_uint8 (.f n_strings_Builder_copyCheck) [.p (some (id, 0))] H = some (.tup [], H.put id (.mem [.p (some (id, 0)), v] 0 ty_strings_Builder true 0)) := by
    show (match H.get id with
        | .mem [.p none, b] 0 t true 0 => bif Nat.beq t ty_strings_Builder then some ((.tup [] : AV), H.put id (.mem [.p (some (id, 0)), b] 0 t true 0)) else none
        | _ => none) = _
    rw [hg]; rfl
  rw [e1]; exact e2
theorem copy_old {id t : Nat} {v : AV} (hg : H.get id = .mem [.p (some (id, 0)), v] 0 t true 0) (h : K (.tup []) H) : @R S (.f n_strings_Builder_copyCheck) [.p (some (id, 0))] H ⟨K⟩ := by
  have e : S.X (.f n_strings_Builder_copyCheck) [.p (some (id, 0))] H = none := by
    have SX : S.X = Xr := rfl
    rw [SX]
    unfold Xr
    have e1 : extA n_internal_bytealg_IndexByteString n_internal_bytealg_CountString n_strings_Join (.f n_strings_Builder_copyCheck) [.p (some (id, 0))] H = none := rfl
    have e2 : extR n_strconv_Itoa n_strings_Builder_copyCheck n_strings_Builder_String ty_strings_Builder ty_uint8 (.f n_strings_Builder_copyCheck) [.p (some (id, 0))] H = none := by
      show (match H.get id with
          | .mem [.p none, b] 0 t true 0 => bif Nat.beq t ty_strings_Builder then some ((.tup [] : AV), H.put id (.mem [.p (some (id, 0)), b] 0 t true 0)) else none
          | _ => none) = _
      rw [hg]
    rw [e1]; exact e2
  refine run_fn2 rfl e ?_
  unfold bd_strings_Builder_copyCheck
  have b1 : binA .eql .ptr (.p (some (id, 0))) (.p none) = some (.b false) := rfl
  have b2 : binA .neq .ptr (.p (some (id, 0))) (.p (some (id, 0))) = some (.b false) := by simp [binA, eqA]
  simp (disch := first | omega | (simp only [List.length_cons, List.length_nil, true_and, and_true, nx_push, nx_put, nx_mark]; done) | (simp only [List.length_cons, List.length_nil, true_and, and_true, nx_push, nx_put, nx_mark]; omega)) only [go_sem, ↓reduceIte, Nat.reduceAdd, Nat.reduceMul, Nat.reduceSub, Int.reduceToNat, UInt8.reduceToNat, Nat.reduceLeDiff, Nat.reduceEqDiff, Nat.sub_zero, Int.add_zero, Int.zero_add, Nat.add_zero, Nat.zero_add, Nat.zero_mul, hg, b1, b2]
  exact h
theorem Rb_cells {t : List UInt8} : ((t.map fun c => (AV.i .u8 (c.toNat : Int))).all AV.one = true) ∧ Els 1 Rb H.get (t.map fun c => (AV.i .u8 (c.toNat : Int))) 0 t := by
  refine ⟨by simp [AV.one], ⟨by simp, fun j x hx => ?_⟩⟩
  have hj := (List.getElem?_eq_some_iff.1 hx).1
  show _ = _
  apply List.ext_getElem?
  intro q
  cases q with
  | zero => simp [hx]
  | succ q => simp [hx]; omega
theorem Write_run {id : Nat} {s t : List UInt8} (hB : BO id s H) (hw : Wf H) (hl : s.length + t.length ≤ 140737488355328) (h : ∀ H', Ext id H H' → BO id (s ++ t) H' → K (.tup [.i .i64 t.length, .nif]) H') : @R S (.f n_strings_Builder_WriteString) [.p (some (id, 0)), .s t] H ⟨K⟩ := by
  obtain ⟨a, v, hg, ha, hv⟩ := hB
  have hid := hw.lt hg (by simp)
  have v1 := hv.one
  refine run_fn2 rfl rfl ?_
  unfold bd_strings_Builder_WriteString
  simp (disch := first | omega | (simp only [List.length_cons, List.length_nil, true_and, and_true, nx_push, nx_put, nx_mark]; done) | (simp only [List.length_cons, List.length_nil, true_and, and_true, nx_push, nx_put, nx_mark]; omega)) only [go_sem, ↓reduceIte, Nat.reduceAdd, Nat.reduceMul, Nat.reduceSub, Int.reduceToNat, UInt8.reduceToNat, Nat.reduceLeDiff, Nat.reduceEqDiff, Nat.sub_zero, Int.add_zero, Int.zero_add, Nat.add_zero, Nat.zero_add, Nat.zero_mul]
  rcases ha with rfl | rfl
  · refine copy_new (H := H.mark []) hg ?_
    have hv' := hv.put (id := id) (o := .mem [.p (some (id, 0)), v] 0 ty_strings_Builder true 0) (by omega)
    have hw1 : Wf (H.put id (.mem [.p (some (id, 0)), v] 0 ty_strings_Builder true 0)) := hw.put hid _
    simp (disch := first | omega | (simp only [List.length_cons, List.length_nil, true_and, and_true, nx_push, nx_put, nx_mark]; done) | (simp only [List.length_cons, List.length_nil, true_and, and_true, nx_push, nx_put, nx_mark]; omega)) only [go_sem, ↓reduceIte, Nat.reduceAdd, Nat.reduceMul, Nat.reduceSub, Int.reduceToNat, UInt8.reduceToNat, Nat.reduceLeDiff, Nat.reduceEqDiff, Nat.sub_zero, Int.add_zero, Int.zero_add, Nat.add_zero, Nat.zero_add, Nat.zero_mul, hv'.one]
    refine onE_of (SlO.app (H := (H.mark []).put id (.mem [.p (some (id, 0)), v] 0 ty_strings_Builder true 0)) (H1 := (H.mark []).put id (.mem [.p (some (id, 0)), v] 0 ty_strings_Builder true 0)) (ys := t) Rb_mono hv' hw1 (by first | omega | (simp only [nx_push, nx_put, nx_mark]; done) | (simp only [nx_push, nx_put, nx_mark]; omega)) (Ext.refl (H := (H.mark []).put id (.mem [.p (some (id, 0)), v] 0 ty_strings_Builder true 0)) hw1) rfl (by simp) (Rb_cells (H := H)).1 ⟨(Rb_cells (H := H)).2.le, (Rb_cells (H := H)).2.el⟩ (by omega) rfl (by omega) (by omega)) (fun v' H2 hh => ?_)
    have E0 : Ext id (H.mark []) ((H.mark []).put id (.mem [.p (some (id, 0)), v] 0 ty_strings_Builder true 0)) := (Ext.refl (H := H.mark []) hw).put (Nat.le_refl _) hid _
    obtain ⟨O2, E2, L2⟩ := hh
    have gb := E2.of (id := id) (o := .mem [.p (some (id, 0)), v] 0 ty_strings_Builder true 0) (by simp (disch := first | omega | (simp only [List.length_cons, List.length_nil, true_and, and_true, nx_push, nx_put, nx_mark]; done) | (simp only [List.length_cons, List.length_nil, true_and, and_true, nx_push, nx_put, nx_mark]; omega)) only [go_sem, ↓reduceIte, Nat.reduceAdd, Nat.reduceMul, Nat.reduceSub, Int.reduceToNat, UInt8.reduceToNat, Nat.reduceLeDiff, Nat.reduceEqDiff, Nat.sub_zero, Int.add_zero, Int.zero_add, Nat.add_zero, Nat.zero_add, Nat.zero_mul]; try exact hg) (by omega)
    have e2 : Ext id (H.mark []) H2 := (E0).trans E2 (by omega)
    have hm2 : H2.marks = [] := e2.marks
    have nx2 := E2.next
    simp only [nx_put, nx_mark] at nx2
    have v21 := O2.one
    have v2c := cells_of_one v21
    simp (disch := first | omega | (simp only [List.length_cons, List.length_nil, true_and, and_true, nx_push, nx_put, nx_mark]; done) | (simp only [List.length_cons, List.length_nil, true_and, and_true, nx_push, nx_put, nx_mark]; omega)) only [go_sem, ↓reduceIte, Nat.reduceAdd, Nat.reduceMul, Nat.reduceSub, Int.reduceToNat, UInt8.reduceToNat, Nat.reduceLeDiff, Nat.reduceEqDiff, Nat.sub_zero, Int.add_zero, Int.zero_add, Nat.add_zero, Nat.zero_add, Nat.zero_mul, gb, v21, v2c, hm2]
    exact h _ ((Ext.mark e2).put (Nat.le_refl _) (by first | omega | (simp only [nx_push, nx_put, nx_mark]; done) | (simp only [nx_push, nx_put, nx_mark]; omega)) _) ⟨_, v', by simp (disch := first | omega | (simp only [List.length_cons, List.length_nil, true_and, and_true, nx_push, nx_put, nx_mark]; done) | (simp only [List.length_cons, List.length_nil, true_and, and_true, nx_push, nx_put, nx_mark]; omega)) only [go_sem, ↓reduceIte, Nat.reduceAdd, Nat.reduceMul, Nat.reduceSub, Int.reduceToNat, UInt8.reduceToNat, Nat.reduceLeDiff, Nat.reduceEqDiff, Nat.sub_zero, Int.add_zero, Int.zero_add, Nat.add_zero, Nat.zero_add, Nat.zero_mul], .inr rfl, (O2.mark (l := H.marks)).put (by omega)⟩
  · refine copy_old (H := H.mark []) hg ?_
    simp (disch := first | omega | (simp only [List.length_cons, List.length_nil, true_and, and_true, nx_push, nx_put, nx_mark]; done) | (simp only [List.length_cons, List.length_nil, true_and, and_true, nx_push, nx_put, nx_mark]; omega)) only [go_sem, ↓reduceIte, Nat.reduceAdd, Nat.reduceMul, Nat.reduceSub, Int.reduceToNat, UInt8.reduceToNat, Nat.reduceLeDiff, Nat.reduceEqDiff, Nat.sub_zero, Int.add_zero, Int.zero_add, Nat.add_zero, Nat.zero_add, Nat.zero_mul, hg, v1]
    refine onE_of (SlO.app (H := H.mark []) (H1 := H.mark []) (ys := t) Rb_mono hv hw (by first | omega | (simp only [nx_push, nx_put, nx_mark]; done) | (simp only [nx_push, nx_put, nx_mark]; omega)) (Ext.refl (H := H.mark []) hw) rfl (by simp) (Rb_cells (H := H)).1 ⟨(Rb_cells (H := H)).2.le, (Rb_cells (H := H)).2.el⟩ (by omega) rfl (by omega) (by omega)) (fun v' H2 hh => ?_)
    have E0 : Ext id (H.mark []) (H.mark []) := Ext.refl (H := H.mark []) hw
    obtain ⟨O2, E2, L2⟩ := hh
    have gb := E2.of (id := id) (o := .mem [.p (some (id, 0)), v] 0 ty_strings_Builder true 0) (by simp (disch := first | omega | (simp only [List.length_cons, List.length_nil, true_and, and_true, nx_push, nx_put, nx_mark]; done) | (simp only [List.length_cons, List.length_nil, true_and, and_true, nx_push, nx_put, nx_mark]; omega)) only [go_sem, ↓reduceIte, Nat.reduceAdd, Nat.reduceMul, Nat.reduceSub, Int.reduceToNat, UInt8.reduceToNat, Nat.reduceLeDiff, Nat.reduceEqDiff, Nat.sub_zero, Int.add_zero, Int.zero_add, Nat.add_zero, Nat.zero_add, Nat.zero_mul]; try exact hg) (by omega)
    have e2 : Ext id (H.mark []) H2 := (E0).trans E2 (by omega)
    have hm2 : H2.marks = [] := e2.marks
    have nx2 := E2.next
    simp only [nx_put, nx_mark] at nx2
    have v21 := O2.one
    have v2c := cells_of_one v21
    simp (disch := first | omega | (simp only [List.length_cons, List.length_nil, true_and, and_true, nx_push, nx_put, nx_mark]; done) | (simp only [List.length_cons, List.length_nil, true_and, and_true, nx_push, nx_put, nx_mark]; omega)) only [go_sem, ↓reduceIte, Nat.reduceAdd, Nat.reduceMul, Nat.reduceSub, Int.reduceToNat, UInt8.reduceToNat, Nat.reduceLeDiff, Nat.reduceEqDiff, Nat.sub_zero, Int.add_zero, Int.zero_add, Nat.add_zero, Nat.zero_add, Nat.zero_mul, gb, v21, v2c, hm2]
    exact h _ ((Ext.mark e2).put (Nat.le_refl _) (by first | omega | (simp only [nx_push, nx_put, nx_mark]; done) | (simp only [nx_push, nx_put, nx_mark]; omega)) _) ⟨_, v', by simp (disch := first | omega | (simp only [List.length_cons, List.length_nil, true_and, and_true, nx_push, nx_put, nx_mark]; done) | (simp only [List.length_cons, List.length_nil, true_and, and_true, nx_push, nx_put, nx_mark]; omega)) only [go_sem, ↓reduceIte, Nat.reduceAdd, Nat.reduceMul, Nat.reduceSub, Int.reduceToNat, UInt8.reduceToNat, Nat.reduceLeDiff, Nat.reduceEqDiff, Nat.sub_zero, Int.add_zero, Int.zero_add, Nat.add_zero, Nat.zero_add, Nat.zero_mul], .inr rfl, (O2.mark (l := H.marks)).put (by omega)⟩
theorem Len_run {id : Nat} {s : List UInt8} (hB : BO id s H) (h : K (.i .i64 s.length) H) : @R S (.f n_strings_Builder_Len) [.p (some (id, 0))] H ⟨K⟩ := by
  obtain ⟨a, v, hg, ha, hv⟩ := hB
  have l1 := hv.len
  refine run_fn2 rfl rfl ?_
  unfold bd_strings_Builder_Len
  simp (disch := first | omega | (simp only [List.length_cons, List.length_nil, true_and, and_true, nx_push, nx_put, nx_mark]; done) | (simp only [List.length_cons, List.length_nil, true_and, and_true, nx_push, nx_put, nx_mark]; omega)) only [go_sem, ↓reduceIte, Nat.reduceAdd, Nat.reduceMul, Nat.reduceSub, Int.reduceToNat, UInt8.reduceToNat, Nat.reduceLeDiff, Nat.reduceEqDiff, Nat.sub_zero, Int.add_zero, Int.zero_add, Nat.add_zero, Nat.zero_add, Nat.zero_mul, hg, l1]
  exact h
def byC (s : List UInt8) : List AV := s.map fun c => (AV.i .u8 (c.toNat : Int))
/-- A Builder that is told. -/
def BS (id : Nat) (s : List UInt8) (H : Mem) : Prop := ∃ a v, H.get id = .mem [.p a, v] 0 ty_strings_Builder true 0 ∧ ((v = .nsl ∧ s = []) ∨ ∃ bid, v = .sl bid 0 s.length none ∧ ((∃ frz, H.get bid = .mem (byC s) 1 ty_uint8 true frz) ∨ H.get bid = .froz (byC s) ty_uint8) ∧ id < bid ∧ s ≠ [])
theorem BO.told {id : Nat} {s : List UInt8} (h : BO id s H) (hs : s ≠ []) : BS id s H := by
  obtain ⟨a, v, hg, ha, hv⟩ := h
  rcases hv with ⟨e, _⟩ | ⟨bid, cells, e1, e2, e3, e4, e5⟩
  · exact absurd e hs
  · refine ⟨a, v, hg, .inr ⟨bid, e1, .inl ⟨0, ?_⟩, by omega, hs⟩⟩
    rw [e2]
    congr 1
    apply List.ext_getElem?
    intro j
    by_cases hj : j < s.length
    · have := e5.el j (s[j]) (by simp [hj])
      simp only [Rb, Nat.mul_one, Nat.zero_add] at this
      have h4 := congrArg (fun l => l[0]?) this
      simp only [List.getElem?_take_of_lt Nat.zero_lt_one, List.getElem?_drop, Nat.add_zero] at h4
      rw [h4]; simp [byC, hj]
    · rw [List.getElem?_eq_none (by omega), List.getElem?_eq_none (by simp [byC]; omega)]
theorem strL_by : ∀ s : List UInt8, strL (byC s) = some s
  | [] => rfl
  | c :: r => by
    have := strL_by r
    simp only [byC, List.map_cons, strL] at this ⊢
    have hc := c.toNat_lt
    rw [if_pos (by omega), this]; simp
theorem String_run {id : Nat} {s : List UInt8} (hB : BS id s H) (hw : Wf H) (hsl : s.length ≤ 140737488355328) (h : ∀ H', Ext (id + 1) H H' → BS id s H' → K (.s s) H') : @R S (.f n_strings_Builder_String) [.p (some (id, 0))] H ⟨K⟩ := by
  obtain ⟨a, v, hg, hv⟩ := hB
  have SX : S.X = Xr := rfl
  have e1 : extA n_internal_bytealg_IndexByteString n_internal_bytealg_CountString n_strings_Join (.f n_strings_Builder_String) [.p (some (id, 0))] H = none := rfl
  rcases hv with ⟨rfl, rfl⟩ | ⟨bid, rfl, hb, hlt, hs⟩
  · refine run_told (v := .s []) (H' := H) ?_ (h H (Ext.refl hw) ⟨a, .nsl, hg, .inl ⟨rfl, rfl⟩⟩)
    rw [SX]; unfold Xr; rw [e1]
    show (match H.get id with
        | .mem [.p _, .nsl] 0 t true 0 => bif Nat.beq t ty_strings_Builder then some ((.s [] : AV), H) else none
        | .mem [.p _, .sl bid 0 len none] 0 t true 0 => bif Nat.beq t ty_strings_Builder then match H.get bid with
          | .mem l 1 t2 true _ => bif Nat.beq t2 ty_uint8 && Nat.beq l.length len && !Nat.beq bid id && !Nat.beq len 0 && Nat.ble len 140737488355328 then match strL l with
            | some x => some (.s x, H.put bid (.froz l t2))
            | none => none
            else none
          | .froz l t2 => bif Nat.beq t2 ty_uint8 && Nat.beq l.length len && !Nat.beq bid id && !Nat.beq len 0 && Nat.ble len 140737488355328 then match strL l with
            | some x => some (.s x, H.put bid (.froz l t2))
            | none => none
            else none
          | _ => none
          else none
        | _ => none) = _
    rw [hg]; rfl
  · have hbl : bid < H.next := by rcases hb with ⟨frz, hb⟩ | hb <;> exact hw.lt hb (by simp)
    have hne : bid ≠ id := by omega
    refine run_told (v := .s s) (H' := H.put bid (.froz (byC s) ty_uint8)) ?_ (h _ ((Ext.refl hw).put (by omega) hbl _) ⟨a, .sl bid 0 s.length none, by simp (disch := first | omega | (simp only [List.length_cons, List.length_nil, true_and, and_true, nx_push, nx_put, nx_mark]; done) | (simp only [List.length_cons, List.length_nil, true_and, and_true, nx_push, nx_put, nx_mark]; omega)) only [go_sem, ↓reduceIte, Nat.reduceAdd, Nat.reduceMul, Nat.reduceSub, Int.reduceToNat, UInt8.reduceToNat, Nat.reduceLeDiff, Nat.reduceEqDiff, Nat.sub_zero, Int.add_zero, Int.zero_add, Nat.add_zero, Nat.zero_add, Nat.zero_mul, hg], .inr ⟨bid, rfl, .inr (by simp (disch := first | omega | (simp only [List.length_cons, List.length_nil, true_and, and_true, nx_push, nx_put, nx_mark]; done) | (simp only [List.length_cons, List.length_nil, true_and, and_true, nx_push, nx_put, nx_mark]; omega)) only [go_sem, ↓reduceIte, Nat.reduceAdd, Nat.reduceMul, Nat.reduceSub, Int.reduceToNat, UInt8.reduceToNat, Nat.reduceLeDiff, Nat.reduceEqDiff, Nat.sub_zero, Int.add_zero, Int.zero_add, Nat.add_zero, Nat.zero_add, Nat.zero_mul]), hlt, hs⟩⟩)
    rw [SX]; unfold Xr; rw [e1]
    have hlen : (byC s).length = s.length := by simp [byC]
    have b1 : Nat.beq (byC s).length s.length = true := by rw [hlen]; exact Nat.beq_refl _
    have b2 : Nat.beq bid id = false := by rw [beqN]; simp [hne]
    have b3 : Nat.beq s.length 0 = false := by
      rw [beqN]
      have : s.length ≠ 0 := fun e => hs (List.eq_nil_of_length_eq_zero e)
      simp [this]
    have b4 : Nat.beq ty_uint8 ty_uint8 = true := rfl
    have b5 : Nat.beq ty_strings_Builder ty_strings_Builder = true := rfl
    have b6 : Nat.ble s.length 140737488355328 = true := by rw [Nat.ble_eq]; exact hsl
    have st := strL_by s
    rcases hb with ⟨frz, hb⟩ | hb
    all_goals
      show (match H.get id with
        | .mem [.p _, .nsl] 0 t true 0 => bif Nat.beq t ty_strings_Builder then some ((.s [] : AV), H) else none
        | .mem [.p _, .sl bid 0 len none] 0 t true 0 => bif Nat.beq t ty_strings_Builder then match H.get bid with
          | .mem l 1 t2 true _ => bif Nat.beq t2 ty_uint8 && Nat.beq l.length len && !Nat.beq bid id && !Nat.beq len 0 && Nat.ble len 140737488355328 then match strL l with
            | some x => some (.s x, H.put bid (.froz l t2))
            | none => none
            else none
          | .froz l t2 => bif Nat.beq t2 ty_uint8 && Nat.beq l.length len && !Nat.beq bid id && !Nat.beq len 0 && Nat.ble len 140737488355328 then match strL l with
            | some x => some (.s x, H.put bid (.froz l t2))
            | none => none
            else none
          | _ => none
          else none
        | _ => none) = _
      rw [hg]
      simp only [hb, b1, b2, b3, b4, b5, b6, st]
      rfl
theorem BO.grow {id m : Nat} {s : List UInt8} {H' : Mem} (h : BO id s H) (w : Wf H) (k : Ext m H H') (hk : H.next ≤ m) : BO id s H' := by
  obtain ⟨a, v, hg, ha, hv⟩ := h
  have hid := w.lt hg (by simp)
  exact ⟨a, v, k.of hg (by omega), ha, hv.grow Rb_mono w k hk⟩
def textL : List FactT → List UInt8 → Option (List UInt8)
  | [], acc => some acc
  | x :: r, acc => if 200000 < acc.length + ((toldF x).length + 1) then none else textL r (acc ++ (toldF x ++ [10]))
def toldOk (x : FactT) : Prop := (0 ≤ x.N ∧ x.N < 100) ∧ (toldF x).length ≤ 1000000 ∧ x.L.length ≤ 1000000
theorem Text_loop {id : Nat} {v : AV} {l : List FactT} {H0 : Mem} {Q : Ex → Tr → Mem → Prop} (hv : ∀ H', Ext id H0 H' → SlR 7 Rfact H'.get v l) (hn : l.length ≤ 1000000) (hok : ∀ x ∈ l, toldOk x) : ∀ (r : List FactT) (i : Nat) (f : Nat → AV) (H : Mem) (acc : List UInt8), l.drop i = r → i + r.length = l.length → Ext id H0 H → BO id acc H → acc.length ≤ 200000 → f 4 = .p (some (id, 0)) → f 10 = v → f 11 = .i .i64 l.length → f 12 = .i .i64 i →
    (∀ f' H', textL r acc = none → f' 2 = .s [] → f' 3 = .b false → Ext id H0 H' → Q .rt (trO 38 f') H') → (∀ s f' H', textL r acc = some s → (r = [] → H' = H) → f' 0 = f 0 → f' 4 = .p (some (id, 0)) → BO id s H' → s.length ≤ 200000 → Ext id H0 H' → Q (.ex 0) (trO 38 f') H') → @W S false (.loop lp_role_Text_0) (trO 38 f) H ⟨Q⟩ := by
  intro r
  induction r with
  | nil =>
    intro i f H acc h1 h3 hx hB hs f4 f10 f11 f12 k1 k2
    simp at h3
    rw [w_loop]
    unfold lp_role_Text_0
    simp (disch := first | omega | (simp only [List.length_cons, List.length_nil, true_and, and_true, nx_push, nx_put, nx_mark]; done) | (simp only [List.length_cons, List.length_nil, true_and, and_true, nx_push, nx_put, nx_mark]; omega)) only [go_sem, ↓reduceIte, Nat.reduceAdd, Nat.reduceMul, Nat.reduceSub, Int.reduceToNat, UInt8.reduceToNat, Nat.reduceLeDiff, Nat.reduceEqDiff, Nat.sub_zero, Int.add_zero, Int.zero_add, Nat.add_zero, Nat.zero_add, Nat.zero_mul, f4, f10, f11, f12]
    exact atQ 38 rfl (k2 acc _ H rfl (fun _ => rfl) rfl rfl hB hs hx)
  | cons x r ih =>
    intro i f H acc h1 h3 hE hB hs f4 f10 f11 f12 k1 k2
    simp at h3
    have hx : l[i]? = some x := by rw [← List.head?_drop, h1]; rfl
    have hr1 : l.drop (i + 1) = r := by rw [← List.drop_drop, h1]; rfl
    obtain ⟨okN, okl, okL⟩ := hok x (List.mem_of_getElem? hx)
    obtain ⟨jd, p, c, y1, y2, y3, y4, y5, y6⟩ := (hv H hE).at_ hx
    obtain ⟨g, rfl, gr⟩ := y2
    have hjd := hE.wf jd y6
    have g1 := gr.one
    have hidn : id < H.next := by obtain ⟨a, u, hg, _⟩ := hB; exact hE.wf.lt hg (by simp)
    rw [w_loop]
    unfold lp_role_Text_0
    simp only [factC] at y4
    simp (disch := first | omega | (simp only [List.length_cons, List.length_nil, true_and, and_true, nx_push, nx_put, nx_mark]; done) | (simp only [List.length_cons, List.length_nil, true_and, and_true, nx_push, nx_put, nx_mark]; omega)) only [go_sem, ↓reduceIte, Nat.reduceAdd, Nat.reduceMul, Nat.reduceSub, Int.reduceToNat, UInt8.reduceToNat, Nat.reduceLeDiff, Nat.reduceEqDiff, Nat.sub_zero, Int.add_zero, Int.zero_add, Nat.add_zero, Nat.zero_add, Nat.zero_mul, f4, f10, f11, f12, y1, y4, g1]
    have hE1 : ∀ o1 o2, Ext H.next H ((H.push o1).put H.next o2) := fun _ _ => ((Ext.refl hE.wf).push _ (Nat.le_refl _)).put (Nat.le_refl _) (by first | omega | (simp only [nx_push, nx_put, nx_mark]; done) | (simp only [nx_push, nx_put, nx_mark]; omega)) _
    refine told_run (x := x) ⟨g, rfl, gr.mono Rs_mono (le_up (hE1 _ _) hE.wf (Nat.le_refl _))⟩ (hE1 _ _).wf okN (by omega) okL (fun H2 x2 => ?_)
    have hE2 : Ext H.next H H2 := (hE1 _ _).trans x2 (by simp only [nx_push, nx_put]; omega)
    have n2 := hE2.next
    have B2 := hB.grow hE.wf hE2 (Nat.le_refl _)
    simp (disch := first | omega | (simp only [List.length_cons, List.length_nil, true_and, and_true, nx_push, nx_put, nx_mark]; done) | (simp only [List.length_cons, List.length_nil, true_and, and_true, nx_push, nx_put, nx_mark]; omega)) only [go_sem, ↓reduceIte, Nat.reduceAdd, Nat.reduceMul, Nat.reduceSub, Int.reduceToNat, UInt8.reduceToNat, Nat.reduceLeDiff, Nat.reduceEqDiff, Nat.sub_zero, Int.add_zero, Int.zero_add, Nat.add_zero, Nat.zero_add, Nat.zero_mul]
    refine Write_run B2 hE2.wf (by simp; omega) (fun H3 x3 B3 => ?_)
    have hE3 : Ext id H0 H3 := (hE.trans hE2 (by omega)).trans x3 (Nat.le_refl _)
    simp (disch := first | omega | (simp only [List.length_cons, List.length_nil, true_and, and_true, nx_push, nx_put, nx_mark]; done) | (simp only [List.length_cons, List.length_nil, true_and, and_true, nx_push, nx_put, nx_mark]; omega)) only [go_sem, ↓reduceIte, Nat.reduceAdd, Nat.reduceMul, Nat.reduceSub, Int.reduceToNat, UInt8.reduceToNat, Nat.reduceLeDiff, Nat.reduceEqDiff, Nat.sub_zero, Int.add_zero, Int.zero_add, Nat.add_zero, Nat.zero_add, Nat.zero_mul]
    refine Len_run B3 ?_
    have hlen : ((acc ++ (toldF x ++ [10])).length : Int) = (acc.length : Int) + ((toldF x).length + 1) := by simp
    by_cases hb : 200000 < acc.length + ((toldF x).length + 1)
    · simp (disch := first | omega | (simp only [List.length_cons, List.length_nil, true_and, and_true, nx_push, nx_put, nx_mark]; done) | (simp only [List.length_cons, List.length_nil, true_and, and_true, nx_push, nx_put, nx_mark]; omega)) only [go_sem, ↓reduceIte, Nat.reduceAdd, Nat.reduceMul, Nat.reduceSub, Int.reduceToNat, UInt8.reduceToNat, Nat.reduceLeDiff, Nat.reduceEqDiff, Nat.sub_zero, Int.add_zero, Int.zero_add, Nat.add_zero, Nat.zero_add, Nat.zero_mul, hlen]
      exact atQ 38 rfl (k1 _ H3 (by rw [textL, if_pos hb]) rfl rfl hE3)
    · simp (disch := first | omega | (simp only [List.length_cons, List.length_nil, true_and, and_true, nx_push, nx_put, nx_mark]; done) | (simp only [List.length_cons, List.length_nil, true_and, and_true, nx_push, nx_put, nx_mark]; omega)) only [go_sem, ↓reduceIte, Nat.reduceAdd, Nat.reduceMul, Nat.reduceSub, Int.reduceToNat, UInt8.reduceToNat, Nat.reduceLeDiff, Nat.reduceEqDiff, Nat.sub_zero, Int.add_zero, Int.zero_add, Nat.add_zero, Nat.zero_add, Nat.zero_mul, hlen]
      have e : textL (x :: r) acc = textL r (acc ++ (toldF x ++ [10])) := by rw [textL, if_neg hb]
      refine atW 38 rfl (ih (i + 1) _ H3 _ hr1 (by omega) hE3 B3 (by simp; omega) rfl rfl rfl rfl (fun f' H' a => k1 f' H' (e.trans a)) (fun s f' H' a _ b => k2 s f' H' (e.trans a) (fun e => nomatch e) b))
theorem textL_ne : ∀ (r : List FactT) (acc s : List UInt8), textL r acc = some s → acc ≠ [] ∨ r ≠ [] → s ≠ []
  | [], acc, s, h, hn => by simp only [textL, Option.some.injEq] at h; subst h; rcases hn with h | h; exact h; exact absurd rfl h
  | x :: r, acc, s, h, _ => by
    rw [textL] at h
    split at h
    · cases h
    · exact textL_ne r _ s h (.inl (by simp))
theorem putN_L (i n : Int) (w : List UInt8) (x : FactT) : (putN i n w x).L.length ≤ x.L.length + 1 := by
  unfold putN; repeat' split
  all_goals simp
theorem fillF_L {F : Form} : ∀ (ws : List WordT) (i : Nat) (x y : FactT), fillF F i ws x = .ok y → y.L.length ≤ x.L.length + ws.length
  | [], _, x, y, h => by simp only [fillF, Except.ok.injEq] at h; subst h; simp
  | w :: r, i, x, y, h => by
    rw [fillF] at h
    split at h
    · split at h
      · have := fillF_L r _ _ y h; simp at this ⊢; omega
      · cases h
    · split at h
      · have := fillF_L r _ _ y h
        have := putN_L i F.names w.1 x
        simp; omega
      · cases h
theorem factF_L (l : LineT) : (factF l).1.L.length ≤ l.2.length := by
  obtain ⟨a, ws⟩ := l
  cases ws with
  | nil => simp [factF, fact0]
  | cons w r =>
    simp only [factF]
    split
    · simp [fact0]
    · split
      · simp [fact0]
      · split
        · simp [fact0]
        · rename_i h
          have := fillF_L _ _ _ _ h
          simp at this ⊢; omega
theorem goF_ok : ∀ (r : List LineT) (i : Nat) (acc : List FactT), (∀ l ∈ r, lineOk l) → (∀ x ∈ acc, x.L.length ≤ 1000000) → (∀ x ∈ (goF i r acc).1, x.L.length ≤ 1000000) ∧ (goF i r acc).1.length ≤ acc.length + r.length
  | [], _, acc, _, h => ⟨h, by simp [goF]⟩
  | l :: r, i, acc, hl, h => by
    rw [goF]
    split
    · simp
    · split
      · have := goF_ok r (i + 1) (acc ++ [(factF l).1]) (fun y hy => hl y (by simp [hy])) (fun x hx => by
          rcases List.mem_append.1 hx with hx | hx
          · exact h x hx
          · rw [List.mem_singleton.1 hx]
            have := factF_L l
            have := (hl l (by simp)).1
            omega)
        refine ⟨this.1, by have := this.2; simp at this ⊢; omega⟩
      · simp
theorem parse_ok (s : List UInt8) : (∀ x ∈ (parseF s).1, x.L.length ≤ 1000000) ∧ (parseF s).1.length ≤ 1000000 := by
  unfold parseF
  have hl := linesOf_ok s
  split
  · have := goF_ok (linesOf s).1 0 [] hl.1 (fun _ h => by simp at h)
    exact ⟨this.1, by have := this.2; simp at this; omega⟩
  · simp
theorem BS.grow {id m : Nat} {s : List UInt8} {H' : Mem} (h : BS id s H) (w : Wf H) (k : Ext m H H') (hk : H.next ≤ m) : BS id s H' := by
  obtain ⟨a, v, hg, hv⟩ := h
  have hid := w.lt hg (by simp)
  refine ⟨a, v, k.of hg (by omega), ?_⟩
  rcases hv with hv | ⟨bid, e1, e2, e3⟩
  · exact .inl hv
  · refine .inr ⟨bid, e1, ?_, e3⟩
    rcases e2 with ⟨frz, e2⟩ | e2
    · exact .inl ⟨frz, k.of e2 (by have := w.lt e2 (by simp); omega)⟩
    · exact .inr (k.of e2 (by have := w.lt e2 (by simp); omega))
def textF (l : List FactT) : List UInt8 × Bool := match textL l [] with
  | none => ([], false)
  | some s => if (parseF s).2.2 = 0 ∧ eqFs (parseF s).1 l = true then (s, true) else ([], false)
theorem Text_run {v : AV} {l : List FactT} (hv : SlR 7 Rfact H.get v l) (hw : Wf H) (hn : l.length ≤ 1000000) (hok : ∀ x ∈ l, toldOk x) (h : ∀ H', Ext H.next H H' → K (.tup [.s (textF l).1, .b (textF l).2]) H') : @R S (.f n_role_Text) [v] H ⟨K⟩ := by
  refine run_fn2 rfl rfl ?_
  unfold bd_role_Text
  have l1 := hv.len
  have hE0 : ∀ o, Ext H.next (H.mark []) ((H.mark []).push o) := fun _ => (Ext.refl (H := H.mark []) hw).push _ (Nat.le_refl _)
  simp (disch := first | omega | (simp only [List.length_cons, List.length_nil, true_and, and_true, nx_push, nx_put, nx_mark]; done) | (simp only [List.length_cons, List.length_nil, true_and, and_true, nx_push, nx_put, nx_mark]; omega)) only [go_sem, ↓reduceIte, Nat.reduceAdd, Nat.reduceMul, Nat.reduceSub, Int.reduceToNat, UInt8.reduceToNat, Nat.reduceLeDiff, Nat.reduceEqDiff, Nat.sub_zero, Int.add_zero, Int.zero_add, Nat.add_zero, Nat.zero_add, Nat.zero_mul, l1]
  refine atW 38 rfl (Text_loop (id := H.next) (v := v) (l := l) (H0 := (H.mark []).push (AO.mem [AV.p none, AV.nsl] 0 ty_strings_Builder true 0)) (fun H' x => hv.mono Rfact_mono (le_up (H := H.mark []) ((hE0 _).trans x (Nat.le_refl _)) hw (Nat.le_refl _))) hn hok l 0 _ _ [] rfl (by simp) (Ext.refl (hE0 _).wf) ⟨none, .nsl, by simp (disch := first | omega | (simp only [List.length_cons, List.length_nil, true_and, and_true, nx_push, nx_put, nx_mark]; done) | (simp only [List.length_cons, List.length_nil, true_and, and_true, nx_push, nx_put, nx_mark]; omega)) only [go_sem, ↓reduceIte, Nat.reduceAdd, Nat.reduceMul, Nat.reduceSub, Int.reduceToNat, UInt8.reduceToNat, Nat.reduceLeDiff, Nat.reduceEqDiff, Nat.sub_zero, Int.add_zero, Int.zero_add, Nat.add_zero, Nat.zero_add, Nat.zero_mul], .inl rfl, SlO.nil⟩ (by simp) rfl rfl rfl rfl (fun f' H' a b2 b3 c => ?_) (fun s f' H' a hnil f0 b hB hs c => ?_))
  · have e : textF l = ([], false) := by simp only [textF, a]
    rw [e] at h
    have hE := (hE0 _).trans c (Nat.le_refl _)
    have hm : H'.marks = [] := hE.marks
    simp (disch := first | omega | (simp only [List.length_cons, List.length_nil, true_and, and_true, nx_push, nx_put, nx_mark]; done) | (simp only [List.length_cons, List.length_nil, true_and, and_true, nx_push, nx_put, nx_mark]; omega)) only [go_sem, ↓reduceIte, Nat.reduceAdd, Nat.reduceMul, Nat.reduceSub, Int.reduceToNat, UInt8.reduceToNat, Nat.reduceLeDiff, Nat.reduceEqDiff, Nat.sub_zero, Int.add_zero, Int.zero_add, Nat.add_zero, Nat.zero_add, Nat.zero_mul, b2, b3, hm]
    exact h _ (Ext.mark hE)
  · have hE := (hE0 _).trans c (Nat.le_refl _)
    have hbs : BS H.next s H' := by
      by_cases hl : l = []
      · subst hl
        simp only [textL, Option.some.injEq] at a
        subst a
        rw [hnil rfl]
        exact ⟨none, .nsl, by simp (disch := first | omega | (simp only [List.length_cons, List.length_nil, true_and, and_true, nx_push, nx_put, nx_mark]; done) | (simp only [List.length_cons, List.length_nil, true_and, and_true, nx_push, nx_put, nx_mark]; omega)) only [go_sem, ↓reduceIte, Nat.reduceAdd, Nat.reduceMul, Nat.reduceSub, Int.reduceToNat, UInt8.reduceToNat, Nat.reduceLeDiff, Nat.reduceEqDiff, Nat.sub_zero, Int.add_zero, Int.zero_add, Nat.add_zero, Nat.zero_add, Nat.zero_mul], .inl ⟨rfl, rfl⟩⟩
      · exact hB.told (textL_ne l [] s a (.inr hl))
    have f0' : f' 0 = v := f0
    simp (disch := first | omega | (simp only [List.length_cons, List.length_nil, true_and, and_true, nx_push, nx_put, nx_mark]; done) | (simp only [List.length_cons, List.length_nil, true_and, and_true, nx_push, nx_put, nx_mark]; omega)) only [go_sem, ↓reduceIte, Nat.reduceAdd, Nat.reduceMul, Nat.reduceSub, Int.reduceToNat, UInt8.reduceToNat, Nat.reduceLeDiff, Nat.reduceEqDiff, Nat.sub_zero, Int.add_zero, Int.zero_add, Nat.add_zero, Nat.zero_add, Nat.zero_mul, b]
    refine String_run hbs hE.wf (by omega) (fun H1 x1 b1 => ?_)
    have hE1 := hE.trans x1 (by omega)
    have n1 := hE1.next
    simp only [nx_mark] at n1
    simp (disch := first | omega | (simp only [List.length_cons, List.length_nil, true_and, and_true, nx_push, nx_put, nx_mark]; done) | (simp only [List.length_cons, List.length_nil, true_and, and_true, nx_push, nx_put, nx_mark]; omega)) only [go_sem, ↓reduceIte, Nat.reduceAdd, Nat.reduceMul, Nat.reduceSub, Int.reduceToNat, UInt8.reduceToNat, Nat.reduceLeDiff, Nat.reduceEqDiff, Nat.sub_zero, Int.add_zero, Int.zero_add, Nat.add_zero, Nat.zero_add, Nat.zero_mul]
    refine Parse_run (by omega) hE1.wf (fun u H2 x2 hu => ?_)
    have hE2 := hE1.trans x2 n1
    have u1 := hu.one
    have hid1 : H.next < H1.next := by obtain ⟨a, u, hg, _⟩ := b1; exact hE1.wf.lt hg (by simp)
    have b2 := b1.grow hE1.wf x2 (Nat.le_refl _)
    have hm2 : H2.marks = [] := hE2.marks
    by_cases he : (parseF s).2.2 = 0
    · have pk := parse_ok s
      simp (disch := first | omega | (simp only [List.length_cons, List.length_nil, true_and, and_true, nx_push, nx_put, nx_mark]; done) | (simp only [List.length_cons, List.length_nil, true_and, and_true, nx_push, nx_put, nx_mark]; omega)) only [go_sem, ↓reduceIte, Nat.reduceAdd, Nat.reduceMul, Nat.reduceSub, Int.reduceToNat, UInt8.reduceToNat, Nat.reduceLeDiff, Nat.reduceEqDiff, Nat.sub_zero, Int.add_zero, Int.zero_add, Nat.add_zero, Nat.zero_add, Nat.zero_mul, u1, he, f0']
      refine EqF_run (hu.mono Rfact_mono sn_le) (hv.mono Rfact_mono (le_up (H := H.mark []) hE2 hw (Nat.le_refl _))) hE2.wf pk.2 pk.1 (fun H3 x3 => ?_)
      have hE3 := hE2.trans x3 (by have := x2.next; omega)
      have b3 := b2.grow hE2.wf x3 (Nat.le_refl _)
      have hm3 : H3.marks = [] := hE3.marks
      cases hq : eqFs (parseF s).1 l with
      | false =>
        have e : textF l = ([], false) := by simp only [textF, a]; rw [if_neg (by simp [hq])]
        rw [e] at h
        simp (disch := first | omega | (simp only [List.length_cons, List.length_nil, true_and, and_true, nx_push, nx_put, nx_mark]; done) | (simp only [List.length_cons, List.length_nil, true_and, and_true, nx_push, nx_put, nx_mark]; omega)) only [go_sem, ↓reduceIte, Nat.reduceAdd, Nat.reduceMul, Nat.reduceSub, Int.reduceToNat, UInt8.reduceToNat, Nat.reduceLeDiff, Nat.reduceEqDiff, Nat.sub_zero, Int.add_zero, Int.zero_add, Nat.add_zero, Nat.zero_add, Nat.zero_mul, hm3]
        exact h _ (Ext.mark hE3)
      | true =>
        have e : textF l = (s, true) := by simp only [textF, a]; rw [if_pos ⟨he, hq⟩]
        rw [e] at h
        simp (disch := first | omega | (simp only [List.length_cons, List.length_nil, true_and, and_true, nx_push, nx_put, nx_mark]; done) | (simp only [List.length_cons, List.length_nil, true_and, and_true, nx_push, nx_put, nx_mark]; omega)) only [go_sem, ↓reduceIte, Nat.reduceAdd, Nat.reduceMul, Nat.reduceSub, Int.reduceToNat, UInt8.reduceToNat, Nat.reduceLeDiff, Nat.reduceEqDiff, Nat.sub_zero, Int.add_zero, Int.zero_add, Nat.add_zero, Nat.zero_add, Nat.zero_mul]
        refine String_run b3 hE3.wf (by omega) (fun H4 x4 b4 => ?_)
        have hE4 := hE3.trans x4 (by omega)
        have hm4 : H4.marks = [] := hE4.marks
        simp (disch := first | omega | (simp only [List.length_cons, List.length_nil, true_and, and_true, nx_push, nx_put, nx_mark]; done) | (simp only [List.length_cons, List.length_nil, true_and, and_true, nx_push, nx_put, nx_mark]; omega)) only [go_sem, ↓reduceIte, Nat.reduceAdd, Nat.reduceMul, Nat.reduceSub, Int.reduceToNat, UInt8.reduceToNat, Nat.reduceLeDiff, Nat.reduceEqDiff, Nat.sub_zero, Int.add_zero, Int.zero_add, Nat.add_zero, Nat.zero_add, Nat.zero_mul, hm4]
        exact h _ (Ext.mark hE4)
    · have e : textF l = ([], false) := by simp only [textF, a]; rw [if_neg (fun k => he k.1)]
      rw [e] at h
      simp (disch := first | omega | (simp only [List.length_cons, List.length_nil, true_and, and_true, nx_push, nx_put, nx_mark]; done) | (simp only [List.length_cons, List.length_nil, true_and, and_true, nx_push, nx_put, nx_mark]; omega)) only [go_sem, ↓reduceIte, Nat.reduceAdd, Nat.reduceMul, Nat.reduceSub, Int.reduceToNat, UInt8.reduceToNat, Nat.reduceLeDiff, Nat.reduceEqDiff, Nat.sub_zero, Int.add_zero, Int.zero_add, Nat.add_zero, Nat.zero_add, Nat.zero_mul, u1, he, hm2]
      exact h _ (Ext.mark hE2)
end Go.Fw.Ro
end
section
/- What the document fixes of role policies. -/
namespace Go.Fw.Ro
open Go Go.Fw Go.Fw.Sys
set_option maxRecDepth 100000
variable {H : Mem} {K : AV → Mem → Prop}
def awk : List UInt8 := [117, 115, 101, 114, 32, 97, 10, 115, 115, 100, 32, 120, 32, 50, 32, 114, 32, 115, 10, 115, 101, 115, 115, 105, 111, 110, 32, 115, 32, 97, 10, 103, 114, 97, 110, 116, 32, 114, 32, 100, 111, 32, 105, 116]
def awkL : List FactT := [⟨1, [97], [], [], 0, [], 0⟩, ⟨6, [120], [], [], 2, [[114], [115]], 7⟩, ⟨8, [115], [97], [], 0, [], 19⟩, ⟨5, [114], [100, 111], [105, 116], 0, [], 31⟩]
theorem awk_parse : parseF awk = (awkL, 0, 0) := by decide +kernel
theorem awk_text : textF awkL = (awk ++ [10], true) := by decide +kernel
theorem awk2 : parseF [117, 115, 101, 114, 32, 97, 32, 98] = ([], 0, 9) := by decide +kernel
theorem awk3 : parseF [114, 111, 108, 101, 32, 65] = ([], 5, 15) := by decide +kernel
theorem awake_run (hw : Wf H) (h : ∀ H', Ext H.next H H' → K (.b true) H') : @R S (.f n_entaillaw13_awake) [] H ⟨K⟩ := by
  refine run_fn2 rfl rfl ?_
  unfold bd_entaillaw13_awake
  have ea : ([117, 115, 101, 114, 32, 97, 10, 115, 115, 100, 32, 120, 32, 50, 32, 114, 32, 115, 10, 115, 101, 115, 115, 105, 111, 110, 32, 115, 32, 97, 10, 103, 114, 97, 110, 116, 32, 114, 32, 100, 111, 32, 105, 116] : List UInt8) = awk := rfl
  have eb : ([117, 115, 101, 114, 32, 97, 10, 115, 115, 100, 32, 120, 32, 50, 32, 114, 32, 115, 10, 115, 101, 115, 115, 105, 111, 110, 32, 115, 32, 97, 10, 103, 114, 97, 110, 116, 32, 114, 32, 100, 111, 32, 105, 116, 10] : List UInt8) = awk ++ [10] := rfl
  rw [ea, eb]
  simp (disch := first | omega | (simp only [List.length_cons, List.length_nil, true_and, and_true, nx_push, nx_put, nx_mark]; done) | (simp only [List.length_cons, List.length_nil, true_and, and_true, nx_push, nx_put, nx_mark]; omega)) only [go_sem, ↓reduceIte, Nat.reduceAdd, Nat.reduceMul, Nat.reduceSub, Int.reduceToNat, UInt8.reduceToNat, Nat.reduceLeDiff, Nat.reduceEqDiff, Nat.sub_zero, Int.add_zero, Int.zero_add, Nat.add_zero, Nat.zero_add, Nat.zero_mul]
  refine Parse_run (H := H.mark []) (by simp [awk]) hw (fun v H1 x1 hv => ?_)
  rw [awk_parse] at hv ⊢
  simp only at hv ⊢
  have v1 := hv.one
  have l1 := hv.len
  simp (disch := first | omega | (simp only [List.length_cons, List.length_nil, true_and, and_true, nx_push, nx_put, nx_mark]; done) | (simp only [List.length_cons, List.length_nil, true_and, and_true, nx_push, nx_put, nx_mark]; omega)) only [go_sem, ↓reduceIte, Nat.reduceAdd, Nat.reduceMul, Nat.reduceSub, Int.reduceToNat, UInt8.reduceToNat, Nat.reduceLeDiff, Nat.reduceEqDiff, Nat.sub_zero, Int.add_zero, Int.zero_add, Nat.add_zero, Nat.zero_add, Nat.zero_mul, v1]
  refine Text_run (hv.mono Rfact_mono sn_le) x1.wf (by simp [awkL]) (by decide +kernel : ∀ x ∈ awkL, ((0 ≤ x.N ∧ x.N < 100) ∧ (toldF x).length ≤ 1000000 ∧ x.L.length ≤ 1000000)) (fun H2 x2 => ?_)
  rw [awk_text]
  simp only
  simp (disch := first | omega | (simp only [List.length_cons, List.length_nil, true_and, and_true, nx_push, nx_put, nx_mark]; done) | (simp only [List.length_cons, List.length_nil, true_and, and_true, nx_push, nx_put, nx_mark]; omega)) only [go_sem, ↓reduceIte, Nat.reduceAdd, Nat.reduceMul, Nat.reduceSub, Int.reduceToNat, UInt8.reduceToNat, Nat.reduceLeDiff, Nat.reduceEqDiff, Nat.sub_zero, Int.add_zero, Int.zero_add, Nat.add_zero, Nat.zero_add, Nat.zero_mul]
  refine Parse_run (by simp) x2.wf (fun v3 H3 x3 hv3 => ?_)
  rw [awk2] at hv3 ⊢
  simp only at hv3 ⊢
  have v31 := hv3.one
  simp (disch := first | omega | (simp only [List.length_cons, List.length_nil, true_and, and_true, nx_push, nx_put, nx_mark]; done) | (simp only [List.length_cons, List.length_nil, true_and, and_true, nx_push, nx_put, nx_mark]; omega)) only [go_sem, ↓reduceIte, Nat.reduceAdd, Nat.reduceMul, Nat.reduceSub, Int.reduceToNat, UInt8.reduceToNat, Nat.reduceLeDiff, Nat.reduceEqDiff, Nat.sub_zero, Int.add_zero, Int.zero_add, Nat.add_zero, Nat.zero_add, Nat.zero_mul, v31]
  refine Parse_run (by simp) x3.wf (fun v4 H4 x4 hv4 => ?_)
  rw [awk3] at hv4 ⊢
  simp only at hv4 ⊢
  have v41 := hv4.one
  have hE := ((x1.trans x2 x1.next).trans x3 (Nat.le_trans x1.next x2.next)).trans x4 (Nat.le_trans x1.next (Nat.le_trans x2.next x3.next))
  have hE14 := (x2.trans x3 x2.next).trans x4 (Nat.le_trans x2.next x3.next)
  have R : SlR 7 Rfact H4.get v awkL := (hv.mono Rfact_mono sn_le).mono Rfact_mono (le_up hE14 x1.wf (Nat.le_refl _))
  have hm : H4.marks = [] := hE.marks
  obtain ⟨i1, p1, c1, y1, y2, y3, y4, y5, y6⟩ := R.at_ (j := 1) rfl
  obtain ⟨i3, p3, c3, z1, z2, z3, z4, z5, z6⟩ := R.at_ (j := 3) rfl
  obtain ⟨g, rfl, gr⟩ := y2
  obtain ⟨g', rfl, gr'⟩ := z2
  have lg := gr.len
  have y10 : ixVS 7 v (.i .i64 1) = some (.p (some (i1, p1))) := y1
  have z10 : ixVS 7 v (.i .i64 3) = some (.p (some (i3, p3))) := z1
  have k0 : ldO (H4.get i1) false 1 p1 = some (.i .i64 6) := y3 0 (by omega)
  have k4 : ldO (H4.get i1) false 1 (p1 + 4) = some (.i .i64 2) := y3 4 (by omega)
  have k5 : ldO (H4.get i1) false 1 (p1 + 5) = some g := y3 5 (by omega)
  have k6 : ldO (H4.get i1) false 1 (p1 + 6) = some (.i .i64 7) := y3 6 (by omega)
  have m3 : ldO (H4.get i3) false 1 (p3 + 3) = some (.s [105, 116]) := z3 3 (by omega)
  have l4 : lenVS v = some (.i .i64 4) := l1
  have l5 : lenVS g = some (.i .i64 2) := lg
  simp (disch := first | omega | (simp only [List.length_cons, List.length_nil, true_and, and_true, nx_push, nx_put, nx_mark]; done) | (simp only [List.length_cons, List.length_nil, true_and, and_true, nx_push, nx_put, nx_mark]; omega)) only [go_sem, ↓reduceIte, Nat.reduceAdd, Nat.reduceMul, Nat.reduceSub, Int.reduceToNat, UInt8.reduceToNat, Nat.reduceLeDiff, Nat.reduceEqDiff, Nat.sub_zero, Int.add_zero, Int.zero_add, Nat.add_zero, Nat.zero_add, Nat.zero_mul, v41, l4, l5, y10, z10, k0, k4, k5, k6, m3, hm]
  exact h _ (Ext.mark hE)
end Go.Fw.Ro
end
section
/- RoleForms. -/
namespace Go.Fw.Ro
open Go Go.Fw Go.Fw.Sys
set_option maxRecDepth 100000
variable {H : Mem} {K : AV → Mem → Prop}
def formsT : List (List UInt8 × Int × Int) := [([117, 115, 101, 114, 32, 97], 0, 0), ([114, 111, 108, 101, 32, 97, 45, 49, 46, 98], 0, 0), ([105, 110, 104, 101, 114, 105, 116, 32, 97, 32, 98], 0, 0), ([97, 115, 115, 105, 103, 110, 32, 97, 32, 98], 0, 0), ([103, 114, 97, 110, 116, 32, 97, 32, 98, 32, 99], 0, 0), ([115, 115, 100, 32, 97, 32, 50, 32, 98, 32, 99], 0, 0), ([100, 115, 100, 32, 97, 32, 57, 57, 32, 98, 32, 99, 32, 100], 0, 0), ([115, 101, 115, 115, 105, 111, 110, 32, 97, 32, 98], 0, 0), ([115, 101, 115, 115, 105, 111, 110, 32, 97, 32, 98, 32, 99, 32, 100], 0, 0), ([117, 115, 101, 114, 115, 32, 97], 1, 9), ([117, 115, 101, 114], 1, 9), ([117, 115, 101, 114, 32, 97, 32, 98], 1, 9), ([105, 110, 104, 101, 114, 105, 116, 32, 97], 1, 9), ([103, 114, 97, 110, 116, 32, 97, 32, 98], 1, 9), ([115, 115, 100, 32, 97, 32, 50, 32, 98], 1, 9), ([115, 101, 115, 115, 105, 111, 110, 32, 97], 1, 9), ([117, 115, 101, 114, 32, 65], 6, 15), ([117, 115, 101, 114, 32, 45, 97], 6, 15), ([103, 114, 97, 110, 116, 32, 97, 32, 98, 32, 67], 11, 15), ([115, 115, 100, 32, 97, 32, 48, 50, 32, 98, 32, 99], 7, 9), ([115, 115, 100, 32, 97, 32, 48, 32, 98, 32, 99], 7, 9), ([115, 115, 100, 32, 97, 32, 49, 48, 48, 32, 98, 32, 99], 7, 9), ([115, 115, 100, 32, 97, 32, 120, 32, 98, 32, 99], 7, 9), ([115, 115, 100, 32, 65, 32, 120, 32, 98, 32, 99], 5, 15), ([115, 101, 115, 115, 105, 111, 110, 32, 97, 32, 98, 32, 99, 32, 68], 15, 15)]
theorem and_lt (a : Int) (m : Nat) (hm : m < 2147483648) : ∃ r : Nat, r ≤ m ∧ IntKind.i64.wrap (((BitVec.ofInt (IntKind.bits .i64) a &&& BitVec.ofInt (IntKind.bits .i64) (m : Int)).toNat : Nat) : Int) = (r : Int) := by
  have h : (BitVec.ofInt (IntKind.bits .i64) a &&& BitVec.ofInt (IntKind.bits .i64) (m : Int)).toNat ≤ m := by
    rw [BitVec.toNat_and]
    refine Nat.le_trans Nat.and_le_right ?_
    simp only [BitVec.toNat_ofInt]
    have e : ((m : Int) % ((2 ^ (IntKind.bits .i64) : Nat) : Int)) = m := Int.emod_eq_of_lt (by omega) (by show (m : Int) < ((2 ^ 64 : Nat) : Int); omega)
    rw [e]; simp
  refine ⟨_, h, ?_⟩
  exact wrap_i64 (by omega) (by omega)
def Rform : Gt → List AV → List UInt8 × Int × Int → Prop := fun _ c x => c = [.s x.1, .i .i64 x.2.1, .i .i64 x.2.2]
def formsC : List AV := (formsT.map fun x => ([.s x.1, .i .i64 x.2.1, .i .i64 x.2.2] : List AV)).flatten
theorem fc : ([.s [117, 115, 101, 114, 32, 97], .i .i64 0, .i .i64 0, .s [114, 111, 108, 101, 32, 97, 45, 49, 46, 98], .i .i64 0, .i .i64 0, .s [105, 110, 104, 101, 114, 105, 116, 32, 97, 32, 98], .i .i64 0, .i .i64 0, .s [97, 115, 115, 105, 103, 110, 32, 97, 32, 98], .i .i64 0, .i .i64 0, .s [103, 114, 97, 110, 116, 32, 97, 32, 98, 32, 99], .i .i64 0, .i .i64 0, .s [115, 115, 100, 32, 97, 32, 50, 32, 98, 32, 99], .i .i64 0, .i .i64 0, .s [100, 115, 100, 32, 97, 32, 57, 57, 32, 98, 32, 99, 32, 100], .i .i64 0, .i .i64 0, .s [115, 101, 115, 115, 105, 111, 110, 32, 97, 32, 98], .i .i64 0, .i .i64 0, .s [115, 101, 115, 115, 105, 111, 110, 32, 97, 32, 98, 32, 99, 32, 100], .i .i64 0, .i .i64 0, .s [117, 115, 101, 114, 115, 32, 97], .i .i64 1, .i .i64 9, .s [117, 115, 101, 114], .i .i64 1, .i .i64 9, .s [117, 115, 101, 114, 32, 97, 32, 98], .i .i64 1, .i .i64 9, .s [105, 110, 104, 101, 114, 105, 116, 32, 97], .i .i64 1, .i .i64 9, .s [103, 114, 97, 110, 116, 32, 97, 32, 98], .i .i64 1, .i .i64 9, .s [115, 115, 100, 32, 97, 32, 50, 32, 98], .i .i64 1, .i .i64 9, .s [115, 101, 115, 115, 105, 111, 110, 32, 97], .i .i64 1, .i .i64 9, .s [117, 115, 101, 114, 32, 65], .i .i64 6, .i .i64 15, .s [117, 115, 101, 114, 32, 45, 97], .i .i64 6, .i .i64 15, .s [103, 114, 97, 110, 116, 32, 97, 32, 98, 32, 67], .i .i64 11, .i .i64 15, .s [115, 115, 100, 32, 97, 32, 48, 50, 32, 98, 32, 99], .i .i64 7, .i .i64 9, .s [115, 115, 100, 32, 97, 32, 48, 32, 98, 32, 99], .i .i64 7, .i .i64 9, .s [115, 115, 100, 32, 97, 32, 49, 48, 48, 32, 98, 32, 99], .i .i64 7, .i .i64 9, .s [115, 115, 100, 32, 97, 32, 120, 32, 98, 32, 99], .i .i64 7, .i .i64 9, .s [115, 115, 100, 32, 65, 32, 120, 32, 98, 32, 99], .i .i64 5, .i .i64 15, .s [115, 101, 115, 115, 105, 111, 110, 32, 97, 32, 98, 32, 99, 32, 68], .i .i64 15, .i .i64 15] : List AV) = formsC := rfl
theorem flat3 (f : List UInt8 × Int × Int → List AV) (hf : ∀ x, (f x).length = 3) : ∀ (l : List (List UInt8 × Int × Int)) (j : Nat) (x : List UInt8 × Int × Int), l[j]? = some x → ((l.map f).flatten.drop (j * 3)).take 3 = f x
  | [], j, x, h => by simp at h
  | y :: l, 0, x, h => by
    simp at h; subst h
    simp only [List.map_cons, List.flatten_cons, Nat.zero_mul, List.drop_zero]
    rw [List.take_append_of_le_length (by rw [hf]; exact Nat.le_refl _), List.take_of_length_le (by rw [hf]; exact Nat.le_refl _)]
  | y :: l, j + 1, x, h => by
    simp only [List.getElem?_cons_succ] at h
    simp only [List.map_cons, List.flatten_cons]
    rw [show (j + 1) * 3 = (f y).length + j * 3 by rw [hf]; omega, ← List.drop_drop, List.drop_left]
    exact flat3 f hf l j x h
theorem forms_cell {j : Nat} {x : List UInt8 × Int × Int} (h : formsT[j]? = some x) : (formsC.drop (j * 3)).take 3 = [.s x.1, .i .i64 x.2.1, .i .i64 x.2.2] := flat3 (fun x => [.s x.1, .i .i64 x.2.1, .i .i64 x.2.2]) (fun _ => rfl) formsT j x h
theorem forms_ok : ∀ x ∈ formsT, if x.2.2 ≠ 0 then parseF (10 :: x.1) = ([], x.2.1, x.2.2) else (parseF (10 :: x.1)).2 = (0, 0) ∧ (parseF (10 :: x.1)).1.length = 1 ∧ ((parseF (10 :: x.1)).1.map FactT.at_) = [1] ∧ textF (parseF (10 :: x.1)).1 = (x.1 ++ [10], true) ∧ ∀ y ∈ (parseF (10 :: x.1)).1, ((0 ≤ y.N ∧ y.N < 100) ∧ (toldF y).length ≤ 1000000 ∧ y.L.length ≤ 1000000) := by decide +kernel
theorem Forms_run {a : Int} (hw : Wf H) (h : ∀ H', Ext H.next H H' → K (.b true) H') : @R S (.f n_entaillaw13_RoleForms) [.i .i64 a] H ⟨K⟩ := by
  refine run_fn2 rfl rfl ?_
  unfold bd_entaillaw13_RoleForms
  obtain ⟨r, hr, e⟩ := and_lt a 255 (by omega)
  have hb : binA .and .int (.i .i64 a) (.i .i64 255) = some (.i .i64 (r : Int)) := by rw [bin_and]; exact congrArg (fun z => some (AV.i .i64 z)) e
  have e2 : (r : Int).tmod 25 = ((r % 25 : Nat) : Int) := rfl
  have z25 : ((25 : Int) = 0) = False := by simp
  have hj : r % 25 < 25 := Nat.mod_lt _ (by omega)
  simp (disch := first | omega | (simp only [List.length_cons, List.length_nil, true_and, and_true, nx_push, nx_put, nx_mark]; done) | (simp only [List.length_cons, List.length_nil, true_and, and_true, nx_push, nx_put, nx_mark]; omega)) only [go_sem, ↓reduceIte, Nat.reduceAdd, Nat.reduceMul, Nat.reduceSub, Int.reduceToNat, UInt8.reduceToNat, Nat.reduceLeDiff, Nat.reduceEqDiff, Nat.sub_zero, Int.add_zero, Int.zero_add, Nat.add_zero, Nat.zero_add, Nat.zero_mul, hb, e2, z25]
  generalize r % 25 = j at hj
  obtain ⟨x, hx⟩ : ∃ x, formsT[j]? = some x := ⟨formsT[j]'(by simpa [formsT] using hj), by simp⟩
  have hc := forms_cell hx
  have hok := forms_ok x (List.mem_of_getElem? hx)
  have hl : x.1.length ≤ 100 := by
    have : ∀ x ∈ formsT, x.1.length ≤ 100 := by decide +kernel
    exact this x (List.mem_of_getElem? hx)
  simp only [fc, hc]
  simp (disch := first | omega | (simp only [List.length_cons, List.length_nil, true_and, and_true, nx_push, nx_put, nx_mark]; done) | (simp only [List.length_cons, List.length_nil, true_and, and_true, nx_push, nx_put, nx_mark]; omega)) only [go_sem, ↓reduceIte, Nat.reduceAdd, Nat.reduceMul, Nat.reduceSub, Int.reduceToNat, UInt8.reduceToNat, Nat.reduceLeDiff, Nat.reduceEqDiff, Nat.sub_zero, Int.add_zero, Int.zero_add, Nat.add_zero, Nat.zero_add, Nat.zero_mul]
  generalize hH1 : ((((H.mark []).push (AO.mem formsC 3 ty_struct_s_string_at_int_e_api_Errno true 0)).push (AO.mem [AV.s [], AV.i IntKind.i64 0, AV.i IntKind.i64 0] 0 ty_struct_s_string_at_int_e_api_Errno true 0)).put (H.next + 1) (AO.mem [AV.s x.1, AV.i IntKind.i64 x.2.1, AV.i IntKind.i64 x.2.2] 0 ty_struct_s_string_at_int_e_api_Errno true 0)) = H1
  have hE1 : Ext H.next (H.mark []) H1 := by rw [← hH1]; exact (((Ext.refl (H := H.mark []) hw).push _ (Nat.le_refl _)).push _ (by first | omega | (simp only [nx_push, nx_put, nx_mark]; done) | (simp only [nx_push, nx_put, nx_mark]; omega))).put (by first | omega | (simp only [nx_push, nx_put, nx_mark]; done) | (simp only [nx_push, nx_put, nx_mark]; omega)) (by first | omega | (simp only [nx_push, nx_put, nx_mark]; done) | (simp only [nx_push, nx_put, nx_mark]; omega)) _
  have n1 : H1.next = H.next + 2 := by rw [← hH1]; rfl
  have a1 : H1.get (H.next + 1) = .mem [AV.s x.1, AV.i IntKind.i64 x.2.1, AV.i IntKind.i64 x.2.2] 0 ty_struct_s_string_at_int_e_api_Errno true 0 := by rw [← hH1]; simp (disch := first | omega | (simp only [List.length_cons, List.length_nil, true_and, and_true, nx_push, nx_put, nx_mark]; done) | (simp only [List.length_cons, List.length_nil, true_and, and_true, nx_push, nx_put, nx_mark]; omega)) only [go_sem, ↓reduceIte, Nat.reduceAdd, Nat.reduceMul, Nat.reduceSub, Int.reduceToNat, UInt8.reduceToNat, Nat.reduceLeDiff, Nat.reduceEqDiff, Nat.sub_zero, Int.add_zero, Int.zero_add, Nat.add_zero, Nat.zero_add, Nat.zero_mul]
  clear hH1
  refine Parse_run (by simp; omega) hE1.wf (fun v H2 x2 hv => ?_)
  have hE2 := hE1.trans x2 (by omega)
  have a2 := x2.of a1 (by omega)
  have v1 := hv.one
  have l1 := hv.len
  have n2 := x2.next
  by_cases he : x.2.2 = 0
  · rw [if_neg (by simp [he])] at hok
    obtain ⟨k1, k2, k3, k4, k5⟩ := hok
    obtain ⟨y, hy⟩ : ∃ y, (parseF (10 :: x.1)).1 = [y] := List.length_eq_one_iff.1 k2
    rw [hy] at hv k3 k4 k5
    have y1 : y.at_ = 1 := by simpa using k3
    rw [hy] at l1
    have l2 : lenVS v = some (.i .i64 1) := l1
    have e1 : (parseF (10 :: x.1)).2.1 = 0 := by rw [k1]
    have e2 : (parseF (10 :: x.1)).2.2 = 0 := by rw [k1]
    simp (disch := first | omega | (simp only [List.length_cons, List.length_nil, true_and, and_true, nx_push, nx_put, nx_mark]; done) | (simp only [List.length_cons, List.length_nil, true_and, and_true, nx_push, nx_put, nx_mark]; omega)) only [go_sem, ↓reduceIte, Nat.reduceAdd, Nat.reduceMul, Nat.reduceSub, Int.reduceToNat, UInt8.reduceToNat, Nat.reduceLeDiff, Nat.reduceEqDiff, Nat.sub_zero, Int.add_zero, Int.zero_add, Nat.add_zero, Nat.zero_add, Nat.zero_mul, v1, a2, he, e1, e2]
    refine Text_run (hv.mono Rfact_mono sn_le) x2.wf (by simp) k5 (fun H3 x3 => ?_)
    rw [k4]
    simp only
    have a3 := x3.of a2 (by omega)
    have n3 := x3.next
    have hE3 := hE2.trans x3 (by omega)
    have R : SlR 7 Rfact H3.get v [y] := (hv.mono Rfact_mono sn_le).mono Rfact_mono (le_up x3 x2.wf (Nat.le_refl _))
    obtain ⟨id, p, c, z1, z2, z3, z4, z5, z6⟩ := R.at_ (j := 0) rfl
    obtain ⟨g, rfl, gr⟩ := z2
    have z10 : ixVS 7 v (.i .i64 0) = some (.p (some (id, p))) := z1
    have w6 : ldO (H3.get id) false 1 (p + 6) = some (.i .i64 1) := by rw [← y1]; exact z3 6 (by omega)
    simp (disch := first | omega | (simp only [List.length_cons, List.length_nil, true_and, and_true, nx_push, nx_put, nx_mark]; done) | (simp only [List.length_cons, List.length_nil, true_and, and_true, nx_push, nx_put, nx_mark]; omega)) only [go_sem, ↓reduceIte, Nat.reduceAdd, Nat.reduceMul, Nat.reduceSub, Int.reduceToNat, UInt8.reduceToNat, Nat.reduceLeDiff, Nat.reduceEqDiff, Nat.sub_zero, Int.add_zero, Int.zero_add, Nat.add_zero, Nat.zero_add, Nat.zero_mul, l2, z10, w6, a3]
    refine awake_run hE3.wf (fun H4 x4 => ?_)
    have hE4 := hE3.trans x4 (by omega)
    have hm4 : H4.marks = [] := hE4.marks
    simp (disch := first | omega | (simp only [List.length_cons, List.length_nil, true_and, and_true, nx_push, nx_put, nx_mark]; done) | (simp only [List.length_cons, List.length_nil, true_and, and_true, nx_push, nx_put, nx_mark]; omega)) only [go_sem, ↓reduceIte, Nat.reduceAdd, Nat.reduceMul, Nat.reduceSub, Int.reduceToNat, UInt8.reduceToNat, Nat.reduceLeDiff, Nat.reduceEqDiff, Nat.sub_zero, Int.add_zero, Int.zero_add, Nat.add_zero, Nat.zero_add, Nat.zero_mul, hm4]
    exact h _ (Ext.mark hE4)
  · rw [if_pos he] at hok
    have e0 : (parseF (10 :: x.1)).1 = [] := by rw [hok]
    have e1 : (parseF (10 :: x.1)).2.1 = x.2.1 := by rw [hok]
    have e2 : (parseF (10 :: x.1)).2.2 = x.2.2 := by rw [hok]
    rw [e0] at l1
    have l2 : lenVS v = some (.i .i64 0) := l1
    have hne : (x.2.2 = 0) = False := by simp [he]
    simp (disch := first | omega | (simp only [List.length_cons, List.length_nil, true_and, and_true, nx_push, nx_put, nx_mark]; done) | (simp only [List.length_cons, List.length_nil, true_and, and_true, nx_push, nx_put, nx_mark]; omega)) only [go_sem, ↓reduceIte, Nat.reduceAdd, Nat.reduceMul, Nat.reduceSub, Int.reduceToNat, UInt8.reduceToNat, Nat.reduceLeDiff, Nat.reduceEqDiff, Nat.sub_zero, Int.add_zero, Int.zero_add, Nat.add_zero, Nat.zero_add, Nat.zero_mul, v1, a2, hne, e1, e2, l2]
    refine awake_run x2.wf (fun H4 x4 => ?_)
    have hE4 := hE2.trans x4 (by omega)
    have hm4 : H4.marks = [] := hE4.marks
    simp (disch := first | omega | (simp only [List.length_cons, List.length_nil, true_and, and_true, nx_push, nx_put, nx_mark]; done) | (simp only [List.length_cons, List.length_nil, true_and, and_true, nx_push, nx_put, nx_mark]; omega)) only [go_sem, ↓reduceIte, Nat.reduceAdd, Nat.reduceMul, Nat.reduceSub, Int.reduceToNat, UInt8.reduceToNat, Nat.reduceLeDiff, Nat.reduceEqDiff, Nat.sub_zero, Int.add_zero, Int.zero_add, Nat.add_zero, Nat.zero_add, Nat.zero_mul, hm4]
    exact h _ (Ext.mark hE4)
end Go.Fw.Ro
end
section
/- The told calls do as they are told. -/
namespace Go.Fw.Ro
open Go Go.Fw Go.Fw.Sys Go.RowKit
variable {P : Program} {μ : Mp} {B : Bd} {w0 w : World} {H : Mem}
structure ToldR (P : Program) (it cc st tB tU : Nat) : Prop where
  eit : ∃ fn, P.funcs[it]? = some fn ∧ (fn.name == "runtime.NumGoroutine") = false ∧ fn.body.isSome = true
  ecc : ∃ fn, P.funcs[cc]? = some fn ∧ (fn.name == "runtime.NumGoroutine") = false ∧ fn.body.isSome = true
  est : ∃ fn, P.funcs[st]? = some fn ∧ (fn.name == "runtime.NumGoroutine") = false ∧ fn.body.isSome = true
  itoa : ∀ (i : Nat), i < 100 → ∀ w : World, Calls P it #[.int .i64 i] w fun e w' => e = .returned (.string ⟨(Lib.decDigits i).toArray⟩) ∧ w' = w
  copy : ∀ (b : Nat) (w : World), w.cell? ⟨b, 0, none⟩ = some (.pointer none) → w.shape? b = some (tB, 2) → w.frozen? ⟨b, 0, none⟩ = false → Calls P cc #[.pointer (some ⟨b, 0, none⟩)] w fun e w' => e = .returned (.tuple #[]) ∧ w' = w.setCell ⟨b, 0, none⟩ (.pointer (some ⟨b, 0, none⟩))
  str0 : ∀ (b : Nat) (w : World), w.cell? ⟨b, 1, none⟩ = some (.slice none 0 0) → Calls P st #[.pointer (some ⟨b, 0, none⟩)] w fun e w' => e = .returned (.string ⟨#[]⟩) ∧ Below w.heap.size w w'
  str : ∀ (b g cap n : Nat) (l : List UInt8) (w : World), l ≠ [] → l.length ≤ cap → cap ≤ n → l.length ≤ 9223372036854775807 → w.cell? ⟨b, 1, none⟩ = some (.slice (some ⟨g, 0, none⟩) l.length cap) → w.shape? g = some (tU, n) → (∀ (j : Nat) (x : UInt8), l[j]? = some x → w.cell? ⟨g, j, none⟩ = some (.int .u8 x.toNat)) →
    Calls P st #[.pointer (some ⟨b, 0, none⟩)] w fun e w' => e = .returned (.string ⟨l.toArray⟩) ∧ ∃ w1 : World, w1.heap = w.heap ∧ Below w.heap.size w w1 ∧ w' = w1.freeze ⟨g, 0, none⟩ l.length
theorem bleN2 (a b : Nat) : Nat.ble a b = decide (a ≤ b) := by
  cases h : Nat.ble a b with
  | true => rw [Nat.ble_eq] at h; simp [h]
  | false =>
    have : ¬ a ≤ b := fun e => by rw [← Nat.ble_eq] at e; rw [h] at e; cases e
    simp [this]
theorem one_arg {x : AV} {us : Array Value} (h : VRs μ [x] us.toList) : ∃ u, us = #[u] ∧ VR μ x u := by
  simp only [VRs] at h
  obtain ⟨u, r, e1, hu, e3⟩ := h
  subst e3
  exact ⟨u, Array.toList_inj.1 e1, hu⟩
theorem freeze_at {g n t : Nat} {cs : Array Value} {fr : Nat × Nat} (h : w.heap[g]? = some (.cells cs t fr)) (hn : n ≠ 0) : (∃ fr', (w.freeze ⟨g, 0, none⟩ n).heap[g]? = some (.cells cs t fr')) ∧ ∀ k, k ≠ g → (w.freeze ⟨g, 0, none⟩ n).heap[k]? = w.heap[k]? := by
  obtain ⟨lo, hi⟩ := fr
  unfold World.freeze
  simp only [if_neg hn]
  refine ⟨⟨_, by simp [Array.getElem?_modify, h]; rfl⟩, fun k hk => ?_⟩
  simp only [Array.getElem?_modify]
  rw [if_neg (fun e => hk e.symm)]
theorem strL_some : ∀ (l : List AV) (x : List UInt8), strL l = some x → l = x.map fun c => (AV.i .u8 (c.toNat : Int))
  | [], x, h => by simp [strL] at h; subst h; rfl
  | a :: r, x, h => by
    unfold strL at h
    split at h <;> try (simp at h; done)
    · rename_i e; cases e
    · rename_i n r' e
      injection e with e1 e2
      subst e1; subst e2
      split at h <;> try (simp at h; done)
      rename_i hn
      split at h <;> try (simp at h; done)
      rename_i y hy
      simp at h; subst h
      have := strL_some _ _ hy
      rw [List.map_cons, ← this]
      congr 2
      simp; omega
theorem extR_ok {it cc st tB tU : Nat} (T : ToldR P it cc st tB tU) : CallOK P B w0 (extR it cc st tB tU) := by
  intro c args H v H' μ w us hv hr hg ha
  cases c with
  | f f =>
    have wide : ∀ {n : Nat} {R : Ending → World → Prop} {us : Array Value}, Calls P f us w R → CallsIn (Fr none) n P f us w R := fun h => callsIn_wide.2 h
    simp only [extR] at hv
    rw [beqN] at hv
    by_cases h1 : f = it
    · subst h1
      simp only [decide_true, cond_true] at hv
      split at hv <;> try (simp at hv; done)
      rename_i n
      rw [bltN] at hv
      by_cases hn : n < 100
      · simp only [hn, decide_true, cond_true, Option.some.injEq, Prod.mk.injEq] at hv
        obtain ⟨rfl, rfl⟩ := hv
        obtain ⟨u, rfl, hu⟩ := one_arg ha
        simp only [VR] at hu; subst hu
        obtain ⟨fn, e1, e2, e3⟩ := T.eit
        refine ⟨rfl, UponR.of_calls (body_enter e1 e2 e3 _ w) fun n' => wide ((T.itoa n hn w).mono fun e w' ⟨h1, h2⟩ => ⟨_, μ, h1, Mp.le_refl _, by rw [h2]; exact hr, rfl⟩)⟩
      · simp [hn] at hv
    · simp only [h1, decide_false, cond_false] at hv
      rw [beqN] at hv
      by_cases h2 : f = cc
      · subst h2
        simp only [decide_true, cond_true] at hv
        split at hv <;> try (simp at hv; done)
        rename_i id
        split at hv <;> try (simp at hv; done)
        rename_i b t eo
        rw [beqN] at hv
        by_cases ht : t = tB
        · subst ht
          simp only [decide_true, cond_true, Option.some.injEq, Prod.mk.injEq] at hv
          obtain ⟨rfl, rfl⟩ := hv
          obtain ⟨u, rfl, hu⟩ := one_arg ha
          obtain ⟨fn, e1, e2, e3⟩ := T.ecc
          have hob := hr.at_ eo (by simp)
          simp only [VR] at hu
          obtain ⟨hid, rfl⟩ := hu
          obtain ⟨cs, fr, g1, g2, g3, g4, g5, g6⟩ := hob
          obtain ⟨nb, nf, b0, sz⟩ := g6 rfl
          have sz2 : cs.size = 2 := sz rfl
          rw [b0] at nf g5 ⊢
          obtain ⟨v0, k1, k2⟩ := g5 0 (.p none) rfl
          simp only [VR] at k2; subst k2
          have c1 : w.cell? ⟨(μ.f id).blk, 0, none⟩ = some (.pointer none) := by simp only [World.cell?, g1, Option.isSome_none, Bool.false_eq_true, if_false]; exact k1
          have c2 : w.shape? (μ.f id).blk = some (t, 2) := by simp [World.shape?, g1, sz2]
          have c3 : w.frozen? ⟨(μ.f id).blk, 0, none⟩ = false := by
            have := nf 0 (Nat.le_refl _) (by omega)
            simp only [World.frozen?, g1]
            simp only [Nat.zero_add, Nat.le_zero_eq] at this
            rw [Bool.and_eq_false_iff, decide_eq_false_iff_not, decide_eq_false_iff_not]; omega
          have r3 := hr.store eo (off := 0) (xs := [.p (some (id, 0))]) (us := [.pointer (some ⟨(μ.f id).blk, 0, none⟩)]) ⟨_, _, rfl, ⟨hid, by rw [b0]⟩, rfl⟩ (by simp) (by simp only [List.length_cons, List.length_nil] at g3 ⊢; omega)
          rw [b0] at r3
          refine ⟨rfl, UponR.of_calls (body_enter e1 e2 e3 _ w) fun n' => wide ((T.copy (μ.f id).blk w c1 c2 c3).mono fun e w' ⟨h1, h2⟩ => ⟨_, μ, h1, Mp.le_refl _, by rw [h2]; exact r3, by simp [VR, VRs]⟩)⟩
        · simp [ht] at hv
      · simp only [h2, decide_false, cond_false] at hv
        rw [beqN] at hv
        by_cases h3 : f = st
        · subst h3
          simp only [decide_true, cond_true] at hv
          split at hv <;> try (simp at hv; done)
          rename_i id
          obtain ⟨fn, e1, e2, e3⟩ := T.est
          obtain ⟨u, rfl, hu⟩ := one_arg ha
          simp only [VR] at hu
          obtain ⟨hid, rfl⟩ := hu
          split at hv <;> try (simp at hv; done)
          · rename_i p t eo
            rw [beqN] at hv
            by_cases ht : t = tB
            · subst ht
              simp only [decide_true, cond_true, Option.some.injEq, Prod.mk.injEq] at hv
              obtain ⟨rfl, rfl⟩ := hv
              have hob := hr.at_ eo (by simp)
              obtain ⟨cs, fr, g1, g2, g3, g4, g5, g6⟩ := hob
              obtain ⟨nb, nf, b0, sz⟩ := g6 rfl
              rw [b0] at g5 ⊢
              obtain ⟨v1, k1, k2⟩ := g5 1 .nsl rfl
              simp only [VR] at k2; subst k2
              have c1 : w.cell? ⟨(μ.f id).blk, 1, none⟩ = some (.slice none 0 0) := by simp only [World.cell?, g1, Option.isSome_none, Bool.false_eq_true, if_false]; exact k1
              refine ⟨rfl, UponR.of_calls (body_enter e1 e2 e3 _ w) fun n' => wide ((T.str0 (μ.f id).blk w c1).mono fun e w' ⟨h1, h2⟩ => ⟨_, μ, h1, Mp.le_refl _, hr.grow h2, rfl⟩)⟩
            · simp [ht] at hv
          · rename_i p bid len t eo
            rw [beqN] at hv
            by_cases ht : t = tB
            · subst ht
              simp only [decide_true, cond_true] at hv
              have hob := hr.at_ eo (by simp)
              obtain ⟨cs, fr, g1, g2, g3, g4, g5, g6⟩ := hob
              obtain ⟨nb, nf, b0, sz⟩ := g6 rfl
              rw [b0] at g5 ⊢
              obtain ⟨v1, k1, k2⟩ := g5 1 (.sl bid 0 len none) rfl
              simp only [VR] at k2
              obtain ⟨hbid, cap, rfl, hlc, hlim, _⟩ := k2
              have c1 : w.cell? ⟨(μ.f id).blk, 1, none⟩ = some (.slice (some ⟨(μ.f bid).blk, (μ.f bid).base + 0, none⟩) len cap) := by simp only [World.cell?, g1, Option.isSome_none, Bool.false_eq_true, if_false]; exact k1
              have fin : ∀ (l : List AV) (x : List UInt8), strL l = some x → l.length = len → len ≠ 0 → len ≤ 140737488355328 → bid ≠ id → (∃ (t2 : Nat) (o : AO) (cs2 : Array Value) (fr2 : Nat × Nat), t2 = tU ∧ H.get bid = o ∧ o.owns = true ∧ w.heap[(μ.f bid).blk]? = some (.cells cs2 tU fr2) ∧ (μ.f bid).base = 0 ∧ (μ.f bid).sz = 1 ∧ (μ.f bid).lim ≤ cs2.size ∧ (∀ (j : Nat) (y : AV), l[j]? = some y → ∃ v, cs2[j]? = some v ∧ VR μ y v)) → v = .s x → H' = H.put bid (.froz l tU) → H'.marks = H.marks ∧ CalR P B w0 μ H' v #[Value.pointer (some ⟨(μ.f id).blk, 0, none⟩)] w (.f f) := by
                rintro l x hx hlen hne hmx hb ⟨t2, o, cs2, fr2, rfl, ho, hown, hc2, hb0, hsz1, hlm, hcell⟩ rfl rfl
                have hxl := strL_some _ _ hx
                have xl : x.length = len := by rw [hxl] at hlen; simpa using hlen
                have x0 : x ≠ [] := fun e => hne (by rw [← xl, e]; rfl)
                have T1 := T.str (μ.f id).blk (μ.f bid).blk cap cs2.size x w x0 (by omega) (by rw [hb0, hsz1] at hlim; omega) (by omega) (by rw [xl]; rw [hb0] at c1; exact c1) (by simp [World.shape?, hc2]) (fun j c hj => by
                  obtain ⟨u, u1, u2⟩ := hcell j (.i .u8 c.toNat) (by rw [hxl, List.getElem?_map, hj]; rfl)
                  simp only [VR] at u2; subst u2
                  simp only [World.cell?, hc2, Option.isSome_none, Bool.false_eq_true, if_false]; exact u1)
                refine ⟨rfl, UponR.of_calls (body_enter e1 e2 e3 _ w) fun n' => wide (T1.mono fun e w' ⟨h1, w1, hw1, hbl, h2⟩ => ⟨_, μ, h1, Mp.le_refl _, ?_, rfl⟩)⟩
                have hr1 := hr.grow hbl
                have hc2' : w1.heap[(μ.f bid).blk]? = some (.cells cs2 t2 fr2) := by rw [hw1]; exact hc2
                obtain ⟨⟨fr', f1⟩, f2⟩ := freeze_at (w := w1) (n := x.length) hc2' (by omega)
                have nB := (hr.at_ ho (owns_live hown)).ge hown
                rw [h2]
                refine hr1.put ho hown ⟨?_, ?_, ?_, ?_, fun k hk => f2 k (fun e => nB (e ▸ hk))⟩ f2 rfl ⟨cs2, fr', f1, ⟨hb0, hsz1, hlm⟩, ?_, hcell, nB⟩
                all_goals (first | (unfold World.freeze; split <;> rfl) | (unfold World.freeze; split <;> simp; done) | (rw [hb0, hsz1] at hlim; omega))
              have cut : ∀ {t2 : Nat} {l : List AV}, (bif Nat.beq t2 tU && Nat.beq l.length len && !Nat.beq bid id && !Nat.beq len 0 && Nat.ble len 140737488355328 then (match strL l with
                | some x => (some (AV.s x, H.put bid (.froz l t2)) : Option (AV × Mem))
                | none => none) else none) = some (v, H') → t2 = tU ∧ l.length = len ∧ bid ≠ id ∧ len ≠ 0 ∧ len ≤ 140737488355328 ∧ ∃ x, strL l = some x ∧ v = .s x ∧ H' = H.put bid (.froz l t2) := by
                intro t2 l h
                rw [beqN, beqN, beqN, beqN] at h
                by_cases c1 : t2 = tU <;> by_cases c2 : l.length = len <;> by_cases c3 : bid = id <;> by_cases c4 : len = 0 <;> by_cases c5 : len ≤ 140737488355328 <;> simp only [bleN2, c5, c1, c2, c3, c4, decide_true, decide_false, Bool.true_and, Bool.false_and, Bool.and_false, Bool.not_true, Bool.not_false, Bool.and_true, cond_true, cond_false, reduceCtorEq] at h
                split at h
                · rename_i x hx
                  simp only [Option.some.injEq, Prod.mk.injEq] at h
                  exact ⟨c1, c2, c3, c4, c5, x, hx, h.1.symm, by rw [c1]; exact h.2.symm⟩
                · cases h
              split at hv
              · rename_i l t2 frz eb
                obtain ⟨q1, q2, q3, q4, q8, x, q5, q6, q7⟩ := cut hv
                obtain ⟨cs2, fr2, p1, p2, p3, p4, p5, p6⟩ := hr.at_ eb (by simp)
                obtain ⟨_, _, b2, _⟩ := p6 rfl
                subst q1
                exact fin l x q5 q2 q4 q8 q3 ⟨_, _, cs2, fr2, rfl, eb, rfl, p1, b2, p4, p2, fun j y hj => by have := p5 j y hj; rw [b2] at this; simpa using this⟩ q6 q7
              · rename_i l t2 eb
                obtain ⟨q1, q2, q3, q4, q8, x, q5, q6, q7⟩ := cut hv
                obtain ⟨cs2, fr2, p1, ⟨p2, p3, p4⟩, p5, p6, p7⟩ := hr.at_ eb (by simp)
                subst q1
                exact fin l x q5 q2 q4 q8 q3 ⟨_, _, cs2, fr2, rfl, eb, rfl, p1, p2, p3, p4, p6⟩ q6 q7
              · cases hv
            · simp [ht] at hv
        · simp [h3] at hv
  | b f => simp [extR] at hv
  | y l => simp [extR] at hv
theorem Xr_ok (T1 : Told P n_internal_bytealg_IndexByteString n_internal_bytealg_CountString n_strings_Join) (T2 : ToldR P n_strconv_Itoa n_strings_Builder_copyCheck n_strings_Builder_String ty_strings_Builder ty_uint8) : CallOK P B w0 Xr := by
  intro c args H v H' μ w us hv hr hg ha
  unfold Xr at hv
  split at hv
  · rename_i r e
    cases hv
    exact extA_ok T1 c args H v H' μ w us e hr hg ha
  · exact extR_ok T2 c args H v H' μ w us hv hr hg ha
end Go.Fw.Ro
end
section
/-
  DERIVED: THE SHELF's CONTRACTS AT THIS DUMP, IN PLAIN WORDS (tools/lay-plain.mjs out of 'TrydShelf.lean', which tools/lay-shelf.mjs wrote): THE SAME DECLARATIONS UNDER THE SAME NAMES: 'import', 'namespace', 'open', 'def', 'theorem' AND NOTHING ELSE: no command of the shelf's: FOR A HAND-IN. Each laying: the table of numbers ('.._ren') and one theorem, a field a fact of the dump's own or the kernel's comparison; each contract: ONE APPLICATION.
-/
namespace Go.Proofs
open Go.Shelf
def Tryd.lays169_ren : Go.Shelf.Ren := ⟨fun | 169 => 13 | n => n, fun | 70 => 44 | 9 => 9 | 0 => 0 | 72 => 47 | 37 => 45 | 127 => 75 | 3 => 3 | 5 => 5 | n => n, fun | n => n⟩
theorem Tryd.lays169 : Go.Proofs.Lays.n169 Tryd.prog Tryd.lays169_ren := {
  mixed := by kernel_rfl
  f169 := Tryd.func13.trans (congrArg some (by kernel_rfl))
  t0 := Tryd.underlying0
  a0 := Tryd.isAgg0
  z0 := Tryd.sizeOf0
  v0 := Tryd.zeroValue0
  t3 := Tryd.underlying3
  a3 := Tryd.isAgg3
  z3 := Tryd.sizeOf3
  v3 := Tryd.zeroValue3
  t9 := Tryd.underlying9
  a9 := Tryd.isAgg9
  z9 := Tryd.sizeOf9
  v9 := Tryd.zeroValue9
  t37 := Tryd.underlying45
  a37 := Tryd.isAgg45
  z37 := Tryd.sizeOf45
  v37 := Tryd.zeroValue45
  t70 := Tryd.underlying44
  a70 := Tryd.isAgg44
  z70 := Tryd.sizeOf44
  v70 := Tryd.zeroValue44
  t72 := Tryd.underlying47
  a72 := Tryd.isAgg47
  z72 := Tryd.sizeOf47
  v72 := Tryd.zeroValue47
  t127 := Tryd.underlying75
  a127 := Tryd.isAgg75
  z127 := Tryd.sizeOf75
  v127 := Tryd.zeroValue75 }
theorem Tryd.Builder_Extra_169 : Builder.Extra Tryd.prog Tryd.lays169_ren := {
  sizeBuilder := by kernel_rfl
  liesBuilder := by kernel_rfl
  t5 := Tryd.underlying5
  a5 := Tryd.isAgg5
  z5 := Tryd.sizeOf5
  v5 := Tryd.zeroValue5
  infoByte := by kernel_rfl
  cellsByte := by kernel_rfl
  sizeByte := by kernel_rfl
  neB5 := by decide }
open Go.RowKit in
/-- (*strings.Builder).String: "String returns the accumulated string.": OF A BUILDER THAT HOLDS AT LEAST ONE BYTE. ✋ THE MODEL FREEZES THOSE BYTES IN THE BUFFER (unsafe.String): a later write INTO them ends the model's run without an answer; a later append BEHIND them goes on. The statement's order of evaluation is drawn: one draw. (LAID: no walk: one application.) -/
theorem Tryd.Builder_String (B b : Nat) (l : List UInt8) (w : World) (h : Lib.IsBuilder 47 5 B b (Lib.byteCells l) w) (h0 : l ≠ []) :
    Calls Tryd.prog 13 #[.pointer (some ⟨b, 0, none⟩)] w fun e w' => e = .returned (.string ⟨l.toArray⟩) ∧ Below B w w' := Any.Builder_String Tryd.lays169 Tryd.Builder_Extra_169 B b l w h h0
open Go.RowKit in
/-- (*strings.Builder).String OF A BUILDER THAT HOLDS NO BYTE: the empty string. (Its buffer is nil, or a row of which it has taken nothing yet; where that row has NO capacity the model lays one new block for unsafe.SliceData's 'some address'.) One draw. (LAID: no walk: one application.) -/
theorem Tryd.Builder_String_empty (B b : Nat) (w : World) (h : Lib.IsBuilder 47 5 B b [] w) (hBw : B ≤ w.heap.size) :
    Calls Tryd.prog 13 #[.pointer (some ⟨b, 0, none⟩)] w fun e w' => e = .returned (.string ⟨#[]⟩) ∧ Below B w w' := Any.Builder_String_empty Tryd.lays169 Tryd.Builder_Extra_169 B b w h hBw
open Go.RowKit in
/-- (*strings.Builder).String: "String returns the accumulated string.": WHATEVER THE BUILDER HOLDS. (LAID: no walk: one application.) -/
theorem Tryd.Builder_String_any (B b : Nat) (l : List UInt8) (w : World) (h : Lib.IsBuilder 47 5 B b (Lib.byteCells l) w) (hBw : B ≤ w.heap.size) :
    Calls Tryd.prog 13 #[.pointer (some ⟨b, 0, none⟩)] w fun e w' => e = .returned (.string ⟨l.toArray⟩) ∧ Below B w w' := Any.Builder_String_any Tryd.lays169 Tryd.Builder_Extra_169 B b l w h hBw
def Tryd.lays156_ren : Go.Shelf.Ren := ⟨fun | 156 => 39 | 165 => 50 | 166 => 10 | 169 => 13 | 240 => 23 | 241 => 70 | 276 => 37 | 277 => 85 | n => n, fun | 31 => 31 | 9 => 9 | 3 => 3 | 4 => 4 | 0 => 0 | 20 => 20 | 72 => 47 | 76 => 50 | 70 => 44 | 37 => 45 | 75 => 49 | 127 => 75 | 164 => 84 | 5 => 5 | 80 => 54 | n => n, fun | n => n⟩
theorem Tryd.lays156 : Go.Proofs.Lays.n156 Tryd.prog Tryd.lays156_ren := {
  mixed := by kernel_rfl
  f156 := Tryd.func39.trans (congrArg some (by kernel_rfl))
  f165 := Tryd.func50.trans (congrArg some (by kernel_rfl))
  f166 := Tryd.func10.trans (congrArg some (by kernel_rfl))
  f169 := Tryd.func13.trans (congrArg some (by kernel_rfl))
  f240 := Tryd.func23.trans (congrArg some (by kernel_rfl))
  f241 := Tryd.func70.trans (congrArg some (by kernel_rfl))
  f276 := Tryd.func37.trans (congrArg some (by kernel_rfl))
  f277 := Tryd.func85.trans (congrArg some (by kernel_rfl))
  t0 := Tryd.underlying0
  a0 := Tryd.isAgg0
  z0 := Tryd.sizeOf0
  v0 := Tryd.zeroValue0
  t3 := Tryd.underlying3
  a3 := Tryd.isAgg3
  z3 := Tryd.sizeOf3
  v3 := Tryd.zeroValue3
  t4 := Tryd.underlying4
  a4 := Tryd.isAgg4
  z4 := Tryd.sizeOf4
  v4 := Tryd.zeroValue4
  t9 := Tryd.underlying9
  a9 := Tryd.isAgg9
  z9 := Tryd.sizeOf9
  v9 := Tryd.zeroValue9
  t20 := Tryd.underlying20
  a20 := Tryd.isAgg20
  z20 := Tryd.sizeOf20
  v20 := Tryd.zeroValue20
  t31 := Tryd.underlying31
  a31 := Tryd.isAgg31
  z31 := Tryd.sizeOf31
  v31 := Tryd.zeroValue31
  t37 := Tryd.underlying45
  a37 := Tryd.isAgg45
  z37 := Tryd.sizeOf45
  v37 := Tryd.zeroValue45
  t70 := Tryd.underlying44
  a70 := Tryd.isAgg44
  z70 := Tryd.sizeOf44
  v70 := Tryd.zeroValue44
  t72 := Tryd.underlying47
  a72 := Tryd.isAgg47
  z72 := Tryd.sizeOf47
  v72 := Tryd.zeroValue47
  t75 := Tryd.underlying49
  a75 := Tryd.isAgg49
  z75 := Tryd.sizeOf49
  v75 := Tryd.zeroValue49
  t76 := Tryd.underlying50
  a76 := Tryd.isAgg50
  z76 := Tryd.sizeOf50
  v76 := Tryd.zeroValue50
  t127 := Tryd.underlying75
  a127 := Tryd.isAgg75
  z127 := Tryd.sizeOf75
  v127 := Tryd.zeroValue75
  t164 := Tryd.underlying84
  a164 := Tryd.isAgg84
  z164 := Tryd.sizeOf84
  v164 := Tryd.zeroValue84 }
theorem Tryd.Builder_Extra_156 : Builder.Extra Tryd.prog Tryd.lays156_ren := {
  sizeBuilder := by kernel_rfl
  liesBuilder := by kernel_rfl
  t5 := Tryd.underlying5
  a5 := Tryd.isAgg5
  z5 := Tryd.sizeOf5
  v5 := Tryd.zeroValue5
  infoByte := by kernel_rfl
  cellsByte := by kernel_rfl
  sizeByte := by kernel_rfl
  neB5 := by decide }
open Go.RowKit in
/-- No element: the empty string; the world is as it was. (Whatever the slice's address and capacity: a nil slice too.) (LAID: no walk: one application.) -/
theorem Tryd.strings_Join_none (a : Option Addr) (c : Nat) (sep : ByteArray) (w : World) :
    Calls Tryd.prog 39 #[.slice a 0 c, .string sep] w fun e w' => e = .returned (.string ⟨#[]⟩) ∧ w' = w := Any.strings_Join_none Tryd.lays156 Tryd.Builder_Extra_156 a c sep w
open Go.RowKit in
/-- strings.Join: "Join concatenates the elements of its first argument to create a single string. The separator string sep is placed between elements in the resulting string.": HOWEVER MANY ELEMENTS. Below the heap's end the world is as it was. (LAID: no walk: one application.) -/
theorem Tryd.strings_Join (bk o c : Nat) (xs : List ByteArray) (sep : ByteArray) (w : World) (hcells : ∀ (j : Nat) x, xs[j]? = some x → w.cell? ⟨bk, o + j, none⟩ = some (.string x)) (hbk : bk < w.heap.size) (hN : xs.length ≤ 140737488355328) (hcap : xs.length ≤ c) (hlen : (Lib.join (xs.map (·.data.toList)) sep.data.toList).length ≤ 140737488355328) :
    Calls Tryd.prog 39 #[.slice (some ⟨bk, o, none⟩) xs.length c, .string sep] w fun e w' => e = .returned (.string ⟨(Lib.join (xs.map (·.data.toList)) sep.data.toList).toArray⟩) ∧ Below w.heap.size w w' := Any.strings_Join Tryd.lays156 Tryd.Builder_Extra_156 bk o c xs sep w hcells hbk hN hcap hlen
def Tryd.lays171_ren : Go.Shelf.Ren := ⟨fun | 171 => 25 | 243 => 38 | 246 => 49 | 283 => 66 | 284 => 67 | 285 => 68 | 286 => 69 | 129 => 81 | 317 => 80 | 318 => 82 | 319 => 83 | 320 => 84 | 337 => 91 | 338 => 92 | n => n, fun | 3 => 3 | 9 => 9 | 2 => 2 | 4 => 4 | 171 => 103 | 0 => 0 | 53 => 104 | 37 => 45 | 5 => 5 | 173 => 107 | 212 => 124 | 51 => 109 | 20 => 20 | 213 => 125 | 46 => 94 | 232 => 140 | 233 => 141 | n => n, fun | 17 => 3 | 18 => 6 | 19 => 7 | n => n⟩
theorem Tryd.lays171 : Go.Proofs.Lays.n171 Tryd.prog Tryd.lays171_ren := {
  mixed := by kernel_rfl
  f129 := Tryd.func81.trans (congrArg some (by kernel_rfl))
  f171 := Tryd.func25.trans (congrArg some (by kernel_rfl))
  f243 := Tryd.func38.trans (congrArg some (by kernel_rfl))
  f246 := Tryd.func49.trans (congrArg some (by kernel_rfl))
  f283 := Tryd.func66.trans (congrArg some (by kernel_rfl))
  f284 := Tryd.func67.trans (congrArg some (by kernel_rfl))
  f285 := Tryd.func68.trans (congrArg some (by kernel_rfl))
  f286 := Tryd.func69.trans (congrArg some (by kernel_rfl))
  f317 := Tryd.func80.trans (congrArg some (by kernel_rfl))
  f318 := Tryd.func82.trans (congrArg some (by kernel_rfl))
  f319 := Tryd.func83.trans (congrArg some (by kernel_rfl))
  f320 := Tryd.func84.trans (congrArg some (by kernel_rfl))
  f337 := Tryd.func91.trans (congrArg some (by kernel_rfl))
  f338 := Tryd.func92.trans (congrArg some (by kernel_rfl))
  t0 := Tryd.underlying0
  a0 := Tryd.isAgg0
  z0 := Tryd.sizeOf0
  v0 := Tryd.zeroValue0
  t2 := Tryd.underlying2
  a2 := Tryd.isAgg2
  z2 := Tryd.sizeOf2
  v2 := Tryd.zeroValue2
  t3 := Tryd.underlying3
  a3 := Tryd.isAgg3
  z3 := Tryd.sizeOf3
  v3 := Tryd.zeroValue3
  t4 := Tryd.underlying4
  a4 := Tryd.isAgg4
  z4 := Tryd.sizeOf4
  v4 := Tryd.zeroValue4
  t5 := Tryd.underlying5
  a5 := Tryd.isAgg5
  z5 := Tryd.sizeOf5
  v5 := Tryd.zeroValue5
  t9 := Tryd.underlying9
  a9 := Tryd.isAgg9
  z9 := Tryd.sizeOf9
  v9 := Tryd.zeroValue9
  t20 := Tryd.underlying20
  a20 := Tryd.isAgg20
  z20 := Tryd.sizeOf20
  v20 := Tryd.zeroValue20
  t37 := Tryd.underlying45
  a37 := Tryd.isAgg45
  z37 := Tryd.sizeOf45
  v37 := Tryd.zeroValue45
  t46 := Tryd.underlying94
  a46 := Tryd.isAgg94
  z46 := Tryd.sizeOf94
  v46 := Tryd.zeroValue94
  t51 := Tryd.underlying109
  a51 := Tryd.isAgg109
  z51 := Tryd.sizeOf109
  v51 := Tryd.zeroValue109
  t53 := Tryd.underlying104
  a53 := Tryd.isAgg104
  z53 := Tryd.sizeOf104
  v53 := Tryd.zeroValue104
  t171 := Tryd.underlying103
  a171 := Tryd.isAgg103
  z171 := Tryd.sizeOf103
  v171 := Tryd.zeroValue103
  t173 := Tryd.underlying107
  a173 := Tryd.isAgg107
  z173 := Tryd.sizeOf107
  v173 := Tryd.zeroValue107
  t212 := Tryd.underlying124
  a212 := Tryd.isAgg124
  z212 := Tryd.sizeOf124
  v212 := Tryd.zeroValue124
  t213 := Tryd.underlying125
  a213 := Tryd.isAgg125
  z213 := Tryd.sizeOf125
  t232 := Tryd.underlying140
  a232 := Tryd.isAgg140
  z232 := Tryd.sizeOf140
  v232 := Tryd.zeroValue140
  t233 := Tryd.underlying141
  a233 := Tryd.isAgg141
  z233 := Tryd.sizeOf141
  v233 := Tryd.zeroValue141
  g17 := by kernel_rfl
  g18 := by kernel_rfl
  g19 := by kernel_rfl }
open Go.RowKit Go.Sort Go.Lib in
/-- THE ROAD WITHOUT THE TABLE: 0 <= i < 100: NO PREMISE ON THE WORLD, AND THE WORLD IS AS IT WAS: a row that keeps its argument in that range need list no table ('laid = []'). (LAID: no walk: one application.) -/
theorem Tryd.strconv_Itoa_small (i : Nat) (hi : i < 100) (w : World) :
    Calls Tryd.prog 25 #[.int .i64 i] w fun e w' => e = .returned (.string ⟨(Lib.decDigits i).toArray⟩) ∧ w' = w := Any.strconv_Itoa_small Tryd.lays171 i hi w
end Go.Proofs
end
section
/- The told calls, at this program. -/
namespace Go.Fw.Ro
open Go Go.Fw Go.RowKit Go.Proofs Go.Shelf
set_option maxRecDepth 100000
theorem told_ok : Told Tryd.prog n_internal_bytealg_IndexByteString n_internal_bytealg_CountString n_strings_Join where
  eib := ⟨_, Tryd.func56, by kernel_rfl, by kernel_rfl, by kernel_rfl, by kernel_rfl⟩
  ecs := ⟨_, Tryd.func29, by kernel_rfl, by kernel_rfl, by kernel_rfl, by kernel_rfl⟩
  ejn := ⟨_, Tryd.func39, by kernel_rfl, by kernel_rfl⟩
  join0 := fun a c sep w => Tryd.strings_Join_none a c sep w
  join := fun bk o c xs sep w h1 h2 h3 h4 h5 => Tryd.strings_Join bk o c xs sep w h1 h2 h3 h4 h5
theorem told_ok2 : ToldR Tryd.prog n_strconv_Itoa n_strings_Builder_copyCheck n_strings_Builder_String ty_strings_Builder ty_uint8 where
  eit := ⟨_, Tryd.func25, by kernel_rfl, by kernel_rfl⟩
  ecc := ⟨_, Tryd.func23, by kernel_rfl, by kernel_rfl⟩
  est := ⟨_, Tryd.func13, by kernel_rfl, by kernel_rfl⟩
  itoa := fun i h w => Tryd.strconv_Itoa_small i h w
  copy := fun b w h1 h2 h3 => Any.Builder_copyCheck_fresh (P := Tryd.prog) (ρ := Tryd.lays156_ren) { Tryd.lays156 with } Tryd.Builder_Extra_156.toX72 b w h1 h2 h3
  str0 := fun b w h => builder_string0 (P := Tryd.prog) (ρ := Tryd.lays169_ren) Tryd.lays169 Tryd.Builder_Extra_169 b w h
  str := fun b g cap n l w h0 h1 h2 h3 h4 h5 h6 => builder_string (P := Tryd.prog) (ρ := Tryd.lays169_ren) Tryd.lays169 Tryd.Builder_Extra_169 b g cap n l w h0 h1 h2 h3 h4 h5 h6
theorem X_ok {B : Bd} {w0 : World} : CallOK Tryd.prog B w0 S.X := Xr_ok told_ok told_ok2
end Go.Fw.Ro
end
section
/- The system's functions are the program's (printed by mkk.py). -/
namespace Go.Fw.Ro
open Go Go.Fw Go.Proofs
set_option maxRecDepth 100000
theorem fT_all : T.allP (fun f af => compF Tryd.prog f = some af) fT (fun k => k) := ⟨trivial, ⟨trivial, ⟨c_entaillaw13_RoleForms, ⟨c_role_Text, ⟨c_role_same, ⟨c_strings_splitSeq, trivial, trivial⟩, ⟨c_atom_first, trivial, trivial⟩⟩, ⟨c_strings_Builder_copyCheck, trivial, ⟨c_internal_stringslite_HasSuffix, trivial, trivial⟩⟩⟩, ⟨c_role_told, ⟨c_line_wrong, ⟨c_role_number, trivial, trivial⟩, trivial⟩, ⟨c_slices_Equal_string_string, ⟨c_internal_stringslite_TrimSuffix, trivial, trivial⟩, ⟨c_strings_makeASCIISet, trivial, trivial⟩⟩⟩⟩, ⟨c_role_Parse, ⟨c_role_Fact, ⟨c_strings_SplitSeq, ⟨c_strings_Contains, ⟨c_strconv_toError, trivial, trivial⟩, trivial⟩, trivial⟩, ⟨trivial, ⟨c_strings_splitSeq_1, trivial, trivial⟩, ⟨c_strings_trimLeftByte, trivial, trivial⟩⟩⟩, ⟨c_strings_Builder_String, ⟨c_role_formOf, trivial, trivial⟩, ⟨trivial, ⟨c_strings_Trim, trivial, trivial⟩, ⟨c_strings_trimRightASCII, trivial, trivial⟩⟩⟩⟩⟩, ⟨trivial, ⟨c_entaillaw13_RoleBounds, ⟨c_line_Lines, ⟨c_strings_Count, ⟨c_strings_TrimSuffix, ⟨c_internal_strconv_Atoi, trivial, trivial⟩, trivial⟩, ⟨c_atom_plain, trivial, trivial⟩⟩, ⟨c_role_keyword, ⟨c_internal_stringslite_Index, ⟨c_strings_asciiSet_contains, trivial, trivial⟩, trivial⟩, trivial⟩⟩, ⟨c_strings_Builder_Len, ⟨c_line_words, ⟨c_atom_Name, trivial, trivial⟩, trivial⟩, ⟨trivial, ⟨c_internal_stringslite_IndexByte, trivial, trivial⟩, ⟨c_strings_trimLeftASCII, trivial, trivial⟩⟩⟩⟩, ⟨c_entaillaw13_awake, ⟨c_strings_Builder_WriteString, ⟨c_line_bare, ⟨c_strings_IndexByte, trivial, trivial⟩, trivial⟩, ⟨c_line_Join, trivial, ⟨c_strings_trimRightByte, trivial, trivial⟩⟩⟩, ⟨c_slices_EqualFunc_api_Fact_api_Fact_api_Fact_api_Fact, ⟨c__role_form_fill, trivial, trivial⟩, ⟨c_strings_Index, ⟨c_strconv_Atoi, trivial, trivial⟩, trivial⟩⟩⟩⟩⟩
theorem F_ok : ∀ f af, S.F f = some af → compF Tryd.prog f = some af := fun f af h => T.allP_get fT_all f af h
end Go.Fw.Ro
end
