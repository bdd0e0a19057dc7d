/- Lemmas for the law's proof, part 6. -/
import Derived.Test.YtpcioegnchiheaaGreatDoorT05
set_option linter.unusedSimpArgs false
set_option linter.unusedVariables false
set_option linter.constructorNameAsVariable false
set_option linter.unnecessarySimpa false
section
/- Facts, whether they are the same. -/
namespace Go.Fw.Ro
open Go Go.Fw Go.Fw.Sys
set_option maxRecDepth 100000
variable {H : Mem} {K : AV → Mem → Prop}
theorem Equal_loop {v w : AV} {xs ys : List (List UInt8)} {Q : Ex → Tr → Mem → Prop} (hv : SlR 1 Rs H.get v xs) (hw : SlR 1 Rs H.get w ys) (hl : xs.length = ys.length) (hn : xs.length ≤ 1000000) : ∀ (r t : List (List UInt8)) (i : Nat) (f : Nat → AV), xs.drop i = r → ys.drop i = t → i + r.length = xs.length → f 0 = v → f 1 = w → f 12 = .i .i64 xs.length → f 13 = .i .i64 i →
    (∀ f', r ≠ t → f' 4 = .b false → Q .rt (trO 26 f') H) → (∀ f', r = t → Q (.ex 0) (trO 26 f') H) → @W S false (.loop lp_slices_Equal_string_string_0) (trO 26 f) H ⟨Q⟩ := by
  intro r
  induction r with
  | nil =>
    intro t i f h1 h2 h3 f0 f1 f12 f13 k1 k2
    simp at h3
    have : t = [] := by rw [← h2]; exact List.drop_eq_nil_of_le (by omega)
    rw [w_loop]
    unfold lp_slices_Equal_string_string_0
    simp (disch := first | omega | (simp only [List.length_cons, List.length_nil, true_and, and_true, nx_push, nx_put, nx_mark]; try omega)) only [go_sem, ↓reduceIte, Nat.reduceAdd, Nat.reduceMul, Nat.reduceSub, Int.reduceToNat, UInt8.reduceToNat, Nat.reduceLeDiff, Nat.reduceEqDiff, Nat.sub_zero, Int.add_zero, Int.zero_add, Nat.add_zero, Nat.zero_add, Nat.zero_mul, f0, f1, f12, f13]
    exact atQ 26 rfl (k2 _ this.symm)
  | cons x r ih =>
    intro t i f h1 h2 h3 f0 f1 f12 f13 k1 k2
    simp at h3
    cases t with
    | nil => have := congrArg List.length h2; simp at this; omega
    | cons y t =>
      have hx : xs[i]? = some x := by rw [← List.head?_drop, h1]; rfl
      have hy : ys[i]? = some y := by rw [← List.head?_drop, h2]; rfl
      have hr1 : xs.drop (i + 1) = r := by rw [← List.drop_drop, h1]; rfl
      have ht1 : ys.drop (i + 1) = t := by rw [← List.drop_drop, h2]; rfl
      obtain ⟨id, p, c, y1, y2, y3, y4, y5, y6⟩ := hv.at_ hx
      obtain ⟨jd, q, d, z1, z2, z3, z4, z5, z6⟩ := hw.at_ hy
      simp only [Rs] at y2 z2
      subst y2 z2
      have y7 : ldO (H.get id) false 1 p = some (.s x) := y3 0 (by omega)
      have z7 : ldO (H.get jd) false 1 q = some (.s y) := z3 0 (by omega)
      rw [w_loop]
      unfold lp_slices_Equal_string_string_0
      simp (disch := first | omega | (simp only [List.length_cons, List.length_nil, true_and, and_true, nx_push, nx_put, nx_mark]; try omega)) only [go_sem, ↓reduceIte, Nat.reduceAdd, Nat.reduceMul, Nat.reduceSub, Int.reduceToNat, UInt8.reduceToNat, Nat.reduceLeDiff, Nat.reduceEqDiff, Nat.sub_zero, Int.add_zero, Int.zero_add, Nat.add_zero, Nat.zero_add, Nat.zero_mul, f0, f1, f12, f13]
      refine w_dregA rfl rfl ?_
      simp (disch := first | omega | (simp only [List.length_cons, List.length_nil, true_and, and_true, nx_push, nx_put, nx_mark]; try omega)) only [go_sem, ↓reduceIte, Nat.reduceAdd, Nat.reduceMul, Nat.reduceSub, Int.reduceToNat, UInt8.reduceToNat, Nat.reduceLeDiff, Nat.reduceEqDiff, Nat.sub_zero, Int.add_zero, Int.zero_add, Nat.add_zero, Nat.zero_add, Nat.zero_mul, f0, f1, f12, f13, y1, y7, z1, z7]
      refine cnd_dec (fun hne => ?_) (fun he => ?_)
      · simp (disch := first | omega | (simp only [List.length_cons, List.length_nil, true_and, and_true, nx_push, nx_put, nx_mark]; try omega)) only [go_sem, ↓reduceIte, Nat.reduceAdd, Nat.reduceMul, Nat.reduceSub, Int.reduceToNat, UInt8.reduceToNat, Nat.reduceLeDiff, Nat.reduceEqDiff, Nat.sub_zero, Int.add_zero, Int.zero_add, Nat.add_zero, Nat.zero_add, Nat.zero_mul]
        exact atQ 26 rfl (k1 _ (fun e => hne (List.cons.inj e).1) rfl)
      · simp (disch := first | omega | (simp only [List.length_cons, List.length_nil, true_and, and_true, nx_push, nx_put, nx_mark]; try omega)) only [go_sem, ↓reduceIte, Nat.reduceAdd, Nat.reduceMul, Nat.reduceSub, Int.reduceToNat, UInt8.reduceToNat, Nat.reduceLeDiff, Nat.reduceEqDiff, Nat.sub_zero, Int.add_zero, Int.zero_add, Nat.add_zero, Nat.zero_add, Nat.zero_mul]
        have he : x = y := Decidable.byContradiction he
        refine atW 26 rfl (ih t (i + 1) _ hr1 ht1 (by omega) rfl rfl rfl rfl (fun f' a b => k1 f' (fun e => a (List.cons.inj e).2) b) (fun f' a => k2 f' (by rw [he, a])))
theorem Equal_run {v w : AV} {xs ys : List (List UInt8)} (hv : SlR 1 Rs H.get v xs) (hw : SlR 1 Rs H.get w ys) (hn : xs.length ≤ 1000000) (h : K (.b (decide (xs = ys))) H) : @R S (.f n_slices_Equal_string_string) [v, w] H ⟨K⟩ := by
  refine run_fn2 rfl rfl ?_
  unfold bd_slices_Equal_string_string
  have l1 := hv.len
  have l2 := hw.len
  simp (disch := first | omega | (simp only [List.length_cons, List.length_nil, true_and, and_true, nx_push, nx_put, nx_mark]; try omega)) only [go_sem, ↓reduceIte, Nat.reduceAdd, Nat.reduceMul, Nat.reduceSub, Int.reduceToNat, UInt8.reduceToNat, Nat.reduceLeDiff, Nat.reduceEqDiff, Nat.sub_zero, Int.add_zero, Int.zero_add, Nat.add_zero, Nat.zero_add, Nat.zero_mul, l1, l2]
  by_cases hl : xs.length = ys.length
  · have hl' : (xs.length : Int) = ys.length := by omega
    simp (disch := first | omega | (simp only [List.length_cons, List.length_nil, true_and, and_true, nx_push, nx_put, nx_mark]; try omega)) only [go_sem, ↓reduceIte, Nat.reduceAdd, Nat.reduceMul, Nat.reduceSub, Int.reduceToNat, UInt8.reduceToNat, Nat.reduceLeDiff, Nat.reduceEqDiff, Nat.sub_zero, Int.add_zero, Int.zero_add, Nat.add_zero, Nat.zero_add, Nat.zero_mul, l1, l2]
    refine atW 26 rfl (Equal_loop (H := H.mark []) hv hw hl hn xs ys 0 _ rfl rfl (by omega) rfl rfl rfl rfl (fun f' a b => ?_) (fun f' a => ?_))
    · simp (disch := first | omega | (simp only [List.length_cons, List.length_nil, true_and, and_true, nx_push, nx_put, nx_mark]; try omega)) only [go_sem, ↓reduceIte, Nat.reduceAdd, Nat.reduceMul, Nat.reduceSub, Int.reduceToNat, UInt8.reduceToNat, Nat.reduceLeDiff, Nat.reduceEqDiff, Nat.sub_zero, Int.add_zero, Int.zero_add, Nat.add_zero, Nat.zero_add, Nat.zero_mul, b]
      exact kb (by simp [a]) h
    · simp (disch := first | omega | (simp only [List.length_cons, List.length_nil, true_and, and_true, nx_push, nx_put, nx_mark]; try omega)) only [go_sem, ↓reduceIte, Nat.reduceAdd, Nat.reduceMul, Nat.reduceSub, Int.reduceToNat, UInt8.reduceToNat, Nat.reduceLeDiff, Nat.reduceEqDiff, Nat.sub_zero, Int.add_zero, Int.zero_add, Nat.add_zero, Nat.zero_add, Nat.zero_mul]
      exact kb (by simp [a]) h
  · have ne : xs ≠ ys := fun e => hl (by rw [e])
    simp (disch := first | omega | (simp only [List.length_cons, List.length_nil, true_and, and_true, nx_push, nx_put, nx_mark]; try omega)) only [go_sem, ↓reduceIte, Nat.reduceAdd, Nat.reduceMul, Nat.reduceSub, Int.reduceToNat, UInt8.reduceToNat, Nat.reduceLeDiff, Nat.reduceEqDiff, Nat.sub_zero, Int.add_zero, Int.zero_add, Nat.add_zero, Nat.zero_add, Nat.zero_mul, l1, l2]
    exact kb (by simp [ne]) h
def sameF (x y : FactT) : Bool := decide (x.kind = y.kind) && decide (x.A = y.A) && decide (x.B = y.B) && decide (x.C = y.C) && decide (x.N = y.N) && decide (x.L = y.L)
theorem same_run {c d : List AV} {x y : FactT} (hc : Rfact H.get c x) (hd : Rfact H.get d y) (hw : Wf H) (hn : x.L.length ≤ 1000000) (h : ∀ H', Ext H.next H H' → K (.b (sameF x y)) H') : @R S (.f n_role_same) [.agg c, .agg d] H ⟨K⟩ := by
  obtain ⟨g, rfl, gr⟩ := hc
  obtain ⟨g', rfl, gr'⟩ := hd
  have g1 := gr.one
  have g2 := gr'.one
  refine run_fn2 rfl rfl ?_
  unfold bd_role_same
  simp only [factC]
  have hx : ∀ o o', Ext H.next (H.mark []) (((H.mark []).push o).push o') := fun o o' => (((Ext.refl (H := H.mark []) hw).push _ (Nat.le_refl _)).push _ (by first | omega | (simp only [nx_push, nx_put, nx_mark]; try omega)))
  have hx' : ∀ o o', Ext H.next H ((H.push o).push o') := fun o o' => (((Ext.refl hw).push _ (Nat.le_refl _)).push _ (by first | omega | (simp only [nx_push, nx_put, nx_mark]; try omega)))
  simp (disch := first | omega | (simp only [List.length_cons, List.length_nil, true_and, and_true, nx_push, nx_put, nx_mark]; try omega)) only [go_sem, ↓reduceIte, Nat.reduceAdd, Nat.reduceMul, Nat.reduceSub, Int.reduceToNat, UInt8.reduceToNat, Nat.reduceLeDiff, Nat.reduceEqDiff, Nat.sub_zero, Int.add_zero, Int.zero_add, Nat.add_zero, Nat.zero_add, Nat.zero_mul, g1, g2]
  by_cases h1 : x.kind = y.kind
  · by_cases h2 : x.A = y.A
    · by_cases h3 : x.B = y.B
      · by_cases h4 : x.C = y.C
        · by_cases h5 : x.N = y.N
          · simp (disch := first | omega | (simp only [List.length_cons, List.length_nil, true_and, and_true, nx_push, nx_put, nx_mark]; try omega)) only [go_sem, ↓reduceIte, Nat.reduceAdd, Nat.reduceMul, Nat.reduceSub, Int.reduceToNat, UInt8.reduceToNat, Nat.reduceLeDiff, Nat.reduceEqDiff, Nat.sub_zero, Int.add_zero, Int.zero_add, Nat.add_zero, Nat.zero_add, Nat.zero_mul, h1, h2, h3, h4, h5]
            refine Equal_run ((gr.mono Rs_mono (le_up (H := H.mark []) (hx _ _) hw (Nat.le_refl _)))) ((gr'.mono Rs_mono (le_up (H := H.mark []) (hx _ _) hw (Nat.le_refl _)))) hn ?_
            have e : sameF x y = decide (x.L = y.L) := by simp [sameF, h1, h2, h3, h4, h5]
            rw [e] at h
            simp (disch := first | omega | (simp only [List.length_cons, List.length_nil, true_and, and_true, nx_push, nx_put, nx_mark]; try omega)) only [go_sem, ↓reduceIte, Nat.reduceAdd, Nat.reduceMul, Nat.reduceSub, Int.reduceToNat, UInt8.reduceToNat, Nat.reduceLeDiff, Nat.reduceEqDiff, Nat.sub_zero, Int.add_zero, Int.zero_add, Nat.add_zero, Nat.zero_add, Nat.zero_mul]
            exact h _ (hx' _ _)
          · have e : sameF x y = false := by simp [sameF, h5]
            rw [e] at h
            simp (disch := first | omega | (simp only [List.length_cons, List.length_nil, true_and, and_true, nx_push, nx_put, nx_mark]; try omega)) only [go_sem, ↓reduceIte, Nat.reduceAdd, Nat.reduceMul, Nat.reduceSub, Int.reduceToNat, UInt8.reduceToNat, Nat.reduceLeDiff, Nat.reduceEqDiff, Nat.sub_zero, Int.add_zero, Int.zero_add, Nat.add_zero, Nat.zero_add, Nat.zero_mul, h1, h2, h3, h4, h5]
            exact h _ (hx' _ _)
        · have e : sameF x y = false := by simp [sameF, h4]
          rw [e] at h
          simp (disch := first | omega | (simp only [List.length_cons, List.length_nil, true_and, and_true, nx_push, nx_put, nx_mark]; try omega)) only [go_sem, ↓reduceIte, Nat.reduceAdd, Nat.reduceMul, Nat.reduceSub, Int.reduceToNat, UInt8.reduceToNat, Nat.reduceLeDiff, Nat.reduceEqDiff, Nat.sub_zero, Int.add_zero, Int.zero_add, Nat.add_zero, Nat.zero_add, Nat.zero_mul, h1, h2, h3, h4]
          exact h _ (hx' _ _)
      · have e : sameF x y = false := by simp [sameF, h3]
        rw [e] at h
        simp (disch := first | omega | (simp only [List.length_cons, List.length_nil, true_and, and_true, nx_push, nx_put, nx_mark]; try omega)) only [go_sem, ↓reduceIte, Nat.reduceAdd, Nat.reduceMul, Nat.reduceSub, Int.reduceToNat, UInt8.reduceToNat, Nat.reduceLeDiff, Nat.reduceEqDiff, Nat.sub_zero, Int.add_zero, Int.zero_add, Nat.add_zero, Nat.zero_add, Nat.zero_mul, h1, h2, h3]
        exact h _ (hx' _ _)
    · have e : sameF x y = false := by simp [sameF, h2]
      rw [e] at h
      simp (disch := first | omega | (simp only [List.length_cons, List.length_nil, true_and, and_true, nx_push, nx_put, nx_mark]; try omega)) only [go_sem, ↓reduceIte, Nat.reduceAdd, Nat.reduceMul, Nat.reduceSub, Int.reduceToNat, UInt8.reduceToNat, Nat.reduceLeDiff, Nat.reduceEqDiff, Nat.sub_zero, Int.add_zero, Int.zero_add, Nat.add_zero, Nat.zero_add, Nat.zero_mul, h1, h2]
      exact h _ (hx' _ _)
  · have e : sameF x y = false := by simp [sameF, h1]
    rw [e] at h
    simp (disch := first | omega | (simp only [List.length_cons, List.length_nil, true_and, and_true, nx_push, nx_put, nx_mark]; try omega)) only [go_sem, ↓reduceIte, Nat.reduceAdd, Nat.reduceMul, Nat.reduceSub, Int.reduceToNat, UInt8.reduceToNat, Nat.reduceLeDiff, Nat.reduceEqDiff, Nat.sub_zero, Int.add_zero, Int.zero_add, Nat.add_zero, Nat.zero_add, Nat.zero_mul, h1]
    exact h _ (hx' _ _)
def eqFs : List FactT → List FactT → Bool
  | [], [] => true
  | x :: r, y :: t => sameF x y && eqFs r t
  | _, _ => false
theorem eqFs_len : ∀ {xs ys : List FactT}, eqFs xs ys = true → xs.length = ys.length
  | [], [], _ => rfl
  | x :: r, y :: t, h => by simp only [eqFs, Bool.and_eq_true] at h; simp [eqFs_len h.2]
  | [], _ :: _, h => by simp [eqFs] at h
  | _ :: _, [], h => by simp [eqFs] at h
theorem EqF_loop {v w : AV} {xs ys : List FactT} {H0 : Mem} {Q : Ex → Tr → Mem → Prop} (w0 : Wf H0) (hv : SlR 7 Rfact H0.get v xs) (hw : SlR 7 Rfact H0.get w ys) (hl : xs.length = ys.length) (hn : xs.length ≤ 1000000) (hL : ∀ x ∈ xs, x.L.length ≤ 1000000) : ∀ (r t : List FactT) (i : Nat) (f : Nat → AV) (H : Mem), xs.drop i = r → ys.drop i = t → i + r.length = xs.length → Ext H0.next H0 H → f 1 = w → f 2 = .fn n_role_same [] [] → f 15 = v → f 16 = .i .i64 xs.length → f 17 = .i .i64 i →
    (∀ f' H', eqFs r t = false → f' 6 = .b false → Ext H0.next H0 H' → Q .rt (trO 32 f') H') → (∀ f' H', eqFs r t = true → Ext H0.next H0 H' → Q (.ex 0) (trO 32 f') H') → @W S false (.loop lp_slices_EqualFunc_api_Fact_api_Fact_api_Fact_api_Fact_0) (trO 32 f) H ⟨Q⟩ := by
  intro r
  induction r with
  | nil =>
    intro t i f H h1 h2 h3 hx f1 f2 f15 f16 f17 k1 k2
    simp at h3
    have : t = [] := by rw [← h2]; exact List.drop_eq_nil_of_le (by omega)
    rw [w_loop]
    unfold lp_slices_EqualFunc_api_Fact_api_Fact_api_Fact_api_Fact_0
    simp (disch := first | omega | (simp only [List.length_cons, List.length_nil, true_and, and_true, nx_push, nx_put, nx_mark]; try omega)) only [go_sem, ↓reduceIte, Nat.reduceAdd, Nat.reduceMul, Nat.reduceSub, Int.reduceToNat, UInt8.reduceToNat, Nat.reduceLeDiff, Nat.reduceEqDiff, Nat.sub_zero, Int.add_zero, Int.zero_add, Nat.add_zero, Nat.zero_add, Nat.zero_mul, f1, f2, f15, f16, f17]
    exact atQ 32 rfl (k2 _ H (by rw [this]; rfl) hx)
  | cons x r ih =>
    intro t i f H h1 h2 h3 hE f1 f2 f15 f16 f17 k1 k2
    simp at h3
    cases t with
    | nil => have := congrArg List.length h2; simp at this; omega
    | cons y t =>
      have hx : xs[i]? = some x := by rw [← List.head?_drop, h1]; rfl
      have hy : ys[i]? = some y := by rw [← List.head?_drop, h2]; rfl
      have hr1 : xs.drop (i + 1) = r := by rw [← List.drop_drop, h1]; rfl
      have ht1 : ys.drop (i + 1) = t := by rw [← List.drop_drop, h2]; rfl
      have hlx := hL x (List.mem_of_getElem? hx)
      obtain ⟨id, p, c, y1, y2, y3, y4, y5, y6⟩ := (hv.mono Rfact_mono (le_up hE w0 (Nat.le_refl _))).at_ hx
      obtain ⟨jd, q, d, z1, z2, z3, z4, z5, z6⟩ := (hw.mono Rfact_mono (le_up hE w0 (Nat.le_refl _))).at_ hy
      obtain ⟨g, rfl, gr⟩ := y2
      obtain ⟨g', rfl, gr'⟩ := z2
      have hid := hE.wf id y6
      have hjd := hE.wf jd z6
      have g1 := gr.one
      have g2 := gr'.one
      have n0 := hE.next
      rw [w_loop]
      unfold lp_slices_EqualFunc_api_Fact_api_Fact_api_Fact_api_Fact_0
      simp only [factC] at y4 z4
      simp (disch := first | omega | (simp only [List.length_cons, List.length_nil, true_and, and_true, nx_push, nx_put, nx_mark]; try omega)) only [go_sem, ↓reduceIte, Nat.reduceAdd, Nat.reduceMul, Nat.reduceSub, Int.reduceToNat, UInt8.reduceToNat, Nat.reduceLeDiff, Nat.reduceEqDiff, Nat.sub_zero, Int.add_zero, Int.zero_add, Nat.add_zero, Nat.zero_add, Nat.zero_mul, f1, f2, f15, f16, f17, y1, y4, z1, z4, g1, g2]
      have hE1 : ∀ o1 o2 o3 o4, Ext H.next H ((((H.push o1).put H.next o2).push o3).put (H.next + 1) o4) := fun _ _ _ _ => ((((Ext.refl hE.wf).push _ (Nat.le_refl _)).put (Nat.le_refl _) (by first | omega | (simp only [nx_push, nx_put, nx_mark]; try omega)) _).push _ (by first | omega | (simp only [nx_push, nx_put, nx_mark]; try omega))).put (by first | omega | (simp only [nx_push, nx_put, nx_mark]; try omega)) (by first | omega | (simp only [nx_push, nx_put, nx_mark]; try omega)) _
      refine same_run (x := x) (y := y) ⟨g, rfl, gr.mono Rs_mono (le_up (hE1 _ _ _ _) hE.wf (Nat.le_refl _))⟩ ⟨g', rfl, gr'.mono Rs_mono (le_up (hE1 _ _ _ _) hE.wf (Nat.le_refl _))⟩ (hE1 _ _ _ _).wf hlx (fun H2 x2 => ?_)
      have hE2 : Ext H0.next H0 H2 := (hE.trans (hE1 _ _ _ _) n0).trans x2 (by simp only [nx_push, nx_put]; omega)
      cases hs : sameF x y with
      | false =>
        simp (disch := first | omega | (simp only [List.length_cons, List.length_nil, true_and, and_true, nx_push, nx_put, nx_mark]; try omega)) only [go_sem, ↓reduceIte, Nat.reduceAdd, Nat.reduceMul, Nat.reduceSub, Int.reduceToNat, UInt8.reduceToNat, Nat.reduceLeDiff, Nat.reduceEqDiff, Nat.sub_zero, Int.add_zero, Int.zero_add, Nat.add_zero, Nat.zero_add, Nat.zero_mul]
        exact atQ 32 rfl (k1 _ _ (by simp only [eqFs, hs]; rfl) rfl hE2)
      | true =>
        simp (disch := first | omega | (simp only [List.length_cons, List.length_nil, true_and, and_true, nx_push, nx_put, nx_mark]; try omega)) only [go_sem, ↓reduceIte, Nat.reduceAdd, Nat.reduceMul, Nat.reduceSub, Int.reduceToNat, UInt8.reduceToNat, Nat.reduceLeDiff, Nat.reduceEqDiff, Nat.sub_zero, Int.add_zero, Int.zero_add, Nat.add_zero, Nat.zero_add, Nat.zero_mul]
        have e : eqFs (x :: r) (y :: t) = eqFs r t := by simp only [eqFs, hs]; rfl
        rw [e] at k1 k2
        refine atW 32 rfl (ih t (i + 1) _ H2 hr1 ht1 (by omega) hE2 rfl rfl rfl rfl rfl k1 k2)
theorem EqF_run {v w : AV} {xs ys : List FactT} (hv : SlR 7 Rfact H.get v xs) (hy : SlR 7 Rfact H.get w ys) (hw : Wf H) (hn : xs.length ≤ 1000000) (hL : ∀ x ∈ xs, x.L.length ≤ 1000000) (h : ∀ H', Ext H.next H H' → K (.b (eqFs xs ys)) H') : @R S (.f n_slices_EqualFunc_api_Fact_api_Fact_api_Fact_api_Fact) [v, w, .fn n_role_same [] []] H ⟨K⟩ := by
  refine run_fn2 rfl rfl ?_
  unfold bd_slices_EqualFunc_api_Fact_api_Fact_api_Fact_api_Fact
  have l1 := hv.len
  have l2 := hy.len
  by_cases hl : xs.length = ys.length
  · have hl' : (xs.length : Int) = ys.length := by omega
    simp (disch := first | omega | (simp only [List.length_cons, List.length_nil, true_and, and_true, nx_push, nx_put, nx_mark]; try omega)) only [go_sem, ↓reduceIte, Nat.reduceAdd, Nat.reduceMul, Nat.reduceSub, Int.reduceToNat, UInt8.reduceToNat, Nat.reduceLeDiff, Nat.reduceEqDiff, Nat.sub_zero, Int.add_zero, Int.zero_add, Nat.add_zero, Nat.zero_add, Nat.zero_mul, l1, l2]
    refine atW 32 rfl (EqF_loop (H0 := H.mark []) hw hv hy hl hn hL xs ys 0 _ (H.mark []) rfl rfl (by omega) (Ext.refl (H := H.mark []) hw) rfl rfl rfl rfl rfl (fun f' H' a b c => ?_) (fun f' H' a c => ?_))
    · have hm : H'.marks = [] := c.marks
      rw [a] at h
      simp (disch := first | omega | (simp only [List.length_cons, List.length_nil, true_and, and_true, nx_push, nx_put, nx_mark]; try omega)) only [go_sem, ↓reduceIte, Nat.reduceAdd, Nat.reduceMul, Nat.reduceSub, Int.reduceToNat, UInt8.reduceToNat, Nat.reduceLeDiff, Nat.reduceEqDiff, Nat.sub_zero, Int.add_zero, Int.zero_add, Nat.add_zero, Nat.zero_add, Nat.zero_mul, b, hm]
      exact h _ (Ext.mark c)
    · have hm : H'.marks = [] := c.marks
      rw [a] at h
      simp (disch := first | omega | (simp only [List.length_cons, List.length_nil, true_and, and_true, nx_push, nx_put, nx_mark]; try omega)) only [go_sem, ↓reduceIte, Nat.reduceAdd, Nat.reduceMul, Nat.reduceSub, Int.reduceToNat, UInt8.reduceToNat, Nat.reduceLeDiff, Nat.reduceEqDiff, Nat.sub_zero, Int.add_zero, Int.zero_add, Nat.add_zero, Nat.zero_add, Nat.zero_mul, hm]
      exact h _ (Ext.mark c)
  · have e : eqFs xs ys = false := by
      cases e : eqFs xs ys with
      | false => rfl
      | true => exact absurd (eqFs_len e) hl
    rw [e] at h
    simp (disch := first | omega | (simp only [List.length_cons, List.length_nil, true_and, and_true, nx_push, nx_put, nx_mark]; try omega)) only [go_sem, ↓reduceIte, Nat.reduceAdd, Nat.reduceMul, Nat.reduceSub, Int.reduceToNat, UInt8.reduceToNat, Nat.reduceLeDiff, Nat.reduceEqDiff, Nat.sub_zero, Int.add_zero, Int.zero_add, Nat.add_zero, Nat.zero_add, Nat.zero_mul, l1, l2]
    exact h _ (Ext.refl hw)
end Go.Fw.Ro
end
section
/- Builders; a text of facts. -/
namespace Go.Fw.Ro
open Go Go.Fw Go.Fw.Sys
set_option maxRecDepth 100000
variable {H : Mem} {K : AV → Mem → Prop}
def Rb : Gt → List AV → UInt8 → Prop := fun _ c x => c = [.i .u8 x.toNat]
theorem Rb_mono : Mono Rb := fun _ _ _ _ _ h => h
/-- A Builder, and what it holds. -/
def BO (id : Nat) (s : List UInt8) (H : Mem) : Prop := ∃ a v, H.get id = .mem [.p a, v] 0 ty_strings_Builder true 0 ∧ (a = none ∨ a = some (id, 0)) ∧ SlO 1 ty_uint8 Rb (id + 1) H v s
theorem copy_new {id : Nat} {v : AV} (hg : H.get id = .mem [.p none, v] 0 ty_strings_Builder true 0) (h : K (.tup []) (H.put id (.mem [.p (some (id, 0)), v] 0 ty_strings_Builder true 0))) : @R S (.f n_strings_Builder_copyCheck) [.p (some (id, 0))] H ⟨K⟩ := by
  refine run_told (v := .tup []) (H' := _) ?_ h
  have SX : S.X = Xr := rfl
  rw [SX]
  unfold Xr
  have e1 : extA n_internal_bytealg_IndexByteString n_internal_bytealg_CountString n_strings_Join (.f n_strings_Builder_copyCheck) [.p (some (id, 0))] H = none := rfl
  have e2 : extR n_strconv_Itoa n_strings_Builder_copyCheck n_strings_Builder_String ty_strings_Builder ty_uint8 (.f n_strings_Builder_copyCheck) [.p (some (id, 0))] H = some (.tup [], H.put id (.mem [.p (some (id, 0)), v] 0 ty_strings_Builder true 0)) := by
    show (match H.get id with
        | .mem [.p none, b] 0 t true 0 => bif Nat.beq t ty_strings_Builder then some ((.tup [] : AV), H.put id (.mem [.p (some (id, 0)), b] 0 t true 0)) else none
        | _ => none) = _
    rw [hg]; rfl
  rw [e1]; exact e2
theorem copy_old {id t : Nat} {v : AV} (hg : H.get id = .mem [.p (some (id, 0)), v] 0 t true 0) (h : K (.tup []) H) : @R S (.f n_strings_Builder_copyCheck) [.p (some (id, 0))] H ⟨K⟩ := by
  have e : S.X (.f n_strings_Builder_copyCheck) [.p (some (id, 0))] H = none := by
    have SX : S.X = Xr := rfl
    rw [SX]
    unfold Xr
    have e1 : extA n_internal_bytealg_IndexByteString n_internal_bytealg_CountString n_strings_Join (.f n_strings_Builder_copyCheck) [.p (some (id, 0))] H = none := rfl
    have e2 : extR n_strconv_Itoa n_strings_Builder_copyCheck n_strings_Builder_String ty_strings_Builder ty_uint8 (.f n_strings_Builder_copyCheck) [.p (some (id, 0))] H = none := by
      show (match H.get id with
          | .mem [.p none, b] 0 t true 0 => bif Nat.beq t ty_strings_Builder then some ((.tup [] : AV), H.put id (.mem [.p (some (id, 0)), b] 0 t true 0)) else none
          | _ => none) = _
      rw [hg]
    rw [e1]; exact e2
  refine run_fn2 rfl e ?_
  unfold bd_strings_Builder_copyCheck
  have b1 : binA .eql .ptr (.p (some (id, 0))) (.p none) = some (.b false) := rfl
  have b2 : binA .neq .ptr (.p (some (id, 0))) (.p (some (id, 0))) = some (.b false) := by simp [binA, eqA]
  simp (disch := first | omega | (simp only [List.length_cons, List.length_nil, true_and, and_true, nx_push, nx_put, nx_mark]; try omega)) only [go_sem, ↓reduceIte, Nat.reduceAdd, Nat.reduceMul, Nat.reduceSub, Int.reduceToNat, UInt8.reduceToNat, Nat.reduceLeDiff, Nat.reduceEqDiff, Nat.sub_zero, Int.add_zero, Int.zero_add, Nat.add_zero, Nat.zero_add, Nat.zero_mul, hg, b1, b2]
  exact h
theorem Rb_cells {t : List UInt8} : ((t.map fun c => (AV.i .u8 (c.toNat : Int))).all AV.one = true) ∧ Els 1 Rb H.get (t.map fun c => (AV.i .u8 (c.toNat : Int))) 0 t := by
  refine ⟨by simp [AV.one], ⟨by simp, fun j x hx => ?_⟩⟩
  have hj := (List.getElem?_eq_some_iff.1 hx).1
  show _ = _
  apply List.ext_getElem?
  intro q
  cases q with
  | zero => simp [hx]
  | succ q => simp [hx]; omega
theorem Write_run {id : Nat} {s t : List UInt8} (hB : BO id s H) (hw : Wf H) (hl : s.length + t.length ≤ 140737488355328) (h : ∀ H', Ext id H H' → BO id (s ++ t) H' → K (.tup [.i .i64 t.length, .nif]) H') : @R S (.f n_strings_Builder_WriteString) [.p (some (id, 0)), .s t] H ⟨K⟩ := by
  obtain ⟨a, v, hg, ha, hv⟩ := hB
  have hid := hw.lt hg (by simp)
  have v1 := hv.one
  refine run_fn2 rfl rfl ?_
  unfold bd_strings_Builder_WriteString
  simp (disch := first | omega | (simp only [List.length_cons, List.length_nil, true_and, and_true, nx_push, nx_put, nx_mark]; try omega)) only [go_sem, ↓reduceIte, Nat.reduceAdd, Nat.reduceMul, Nat.reduceSub, Int.reduceToNat, UInt8.reduceToNat, Nat.reduceLeDiff, Nat.reduceEqDiff, Nat.sub_zero, Int.add_zero, Int.zero_add, Nat.add_zero, Nat.zero_add, Nat.zero_mul]
  rcases ha with rfl | rfl
  · refine copy_new (H := H.mark []) hg ?_
    have hv' := hv.put (id := id) (o := .mem [.p (some (id, 0)), v] 0 ty_strings_Builder true 0) (by omega)
    have hw1 : Wf (H.put id (.mem [.p (some (id, 0)), v] 0 ty_strings_Builder true 0)) := hw.put hid _
    simp (disch := first | omega | (simp only [List.length_cons, List.length_nil, true_and, and_true, nx_push, nx_put, nx_mark]; try omega)) only [go_sem, ↓reduceIte, Nat.reduceAdd, Nat.reduceMul, Nat.reduceSub, Int.reduceToNat, UInt8.reduceToNat, Nat.reduceLeDiff, Nat.reduceEqDiff, Nat.sub_zero, Int.add_zero, Int.zero_add, Nat.add_zero, Nat.zero_add, Nat.zero_mul, hv'.one]
    refine onE_of (SlO.app (H := (H.mark []).put id (.mem [.p (some (id, 0)), v] 0 ty_strings_Builder true 0)) (H1 := (H.mark []).put id (.mem [.p (some (id, 0)), v] 0 ty_strings_Builder true 0)) (ys := t) Rb_mono hv' hw1 (by first | omega | (simp only [nx_push, nx_put, nx_mark]; try omega)) (Ext.refl (H := (H.mark []).put id (.mem [.p (some (id, 0)), v] 0 ty_strings_Builder true 0)) hw1) rfl (by simp) (Rb_cells (H := H)).1 ⟨(Rb_cells (H := H)).2.le, (Rb_cells (H := H)).2.el⟩ (by omega) rfl (by omega) (by omega)) (fun v' H2 hh => ?_)
    have E0 : Ext id (H.mark []) ((H.mark []).put id (.mem [.p (some (id, 0)), v] 0 ty_strings_Builder true 0)) := (Ext.refl (H := H.mark []) hw).put (Nat.le_refl _) hid _
    obtain ⟨O2, E2, L2⟩ := hh
    have gb := E2.of (id := id) (o := .mem [.p (some (id, 0)), v] 0 ty_strings_Builder true 0) (by simp (disch := first | omega | (simp only [List.length_cons, List.length_nil, true_and, and_true, nx_push, nx_put, nx_mark]; try omega)) only [go_sem, ↓reduceIte, Nat.reduceAdd, Nat.reduceMul, Nat.reduceSub, Int.reduceToNat, UInt8.reduceToNat, Nat.reduceLeDiff, Nat.reduceEqDiff, Nat.sub_zero, Int.add_zero, Int.zero_add, Nat.add_zero, Nat.zero_add, Nat.zero_mul]; try exact hg) (by omega)
    have e2 : Ext id (H.mark []) H2 := (E0).trans E2 (by omega)
    have hm2 : H2.marks = [] := e2.marks
    have nx2 := E2.next
    simp only [nx_put, nx_mark] at nx2
    have v21 := O2.one
    have v2c := cells_of_one v21
    simp (disch := first | omega | (simp only [List.length_cons, List.length_nil, true_and, and_true, nx_push, nx_put, nx_mark]; try omega)) only [go_sem, ↓reduceIte, Nat.reduceAdd, Nat.reduceMul, Nat.reduceSub, Int.reduceToNat, UInt8.reduceToNat, Nat.reduceLeDiff, Nat.reduceEqDiff, Nat.sub_zero, Int.add_zero, Int.zero_add, Nat.add_zero, Nat.zero_add, Nat.zero_mul, gb, v21, v2c, hm2]
    exact h _ ((Ext.mark e2).put (Nat.le_refl _) (by first | omega | (simp only [nx_push, nx_put, nx_mark]; try omega)) _) ⟨_, v', by simp (disch := first | omega | (simp only [List.length_cons, List.length_nil, true_and, and_true, nx_push, nx_put, nx_mark]; try omega)) only [go_sem, ↓reduceIte, Nat.reduceAdd, Nat.reduceMul, Nat.reduceSub, Int.reduceToNat, UInt8.reduceToNat, Nat.reduceLeDiff, Nat.reduceEqDiff, Nat.sub_zero, Int.add_zero, Int.zero_add, Nat.add_zero, Nat.zero_add, Nat.zero_mul], .inr rfl, (O2.mark (l := H.marks)).put (by omega)⟩
  · refine copy_old (H := H.mark []) hg ?_
    simp (disch := first | omega | (simp only [List.length_cons, List.length_nil, true_and, and_true, nx_push, nx_put, nx_mark]; try omega)) only [go_sem, ↓reduceIte, Nat.reduceAdd, Nat.reduceMul, Nat.reduceSub, Int.reduceToNat, UInt8.reduceToNat, Nat.reduceLeDiff, Nat.reduceEqDiff, Nat.sub_zero, Int.add_zero, Int.zero_add, Nat.add_zero, Nat.zero_add, Nat.zero_mul, hg, v1]
    refine onE_of (SlO.app (H := H.mark []) (H1 := H.mark []) (ys := t) Rb_mono hv hw (by first | omega | (simp only [nx_push, nx_put, nx_mark]; try omega)) (Ext.refl (H := H.mark []) hw) rfl (by simp) (Rb_cells (H := H)).1 ⟨(Rb_cells (H := H)).2.le, (Rb_cells (H := H)).2.el⟩ (by omega) rfl (by omega) (by omega)) (fun v' H2 hh => ?_)
    have E0 : Ext id (H.mark []) (H.mark []) := Ext.refl (H := H.mark []) hw
    obtain ⟨O2, E2, L2⟩ := hh
    have gb := E2.of (id := id) (o := .mem [.p (some (id, 0)), v] 0 ty_strings_Builder true 0) (by simp (disch := first | omega | (simp only [List.length_cons, List.length_nil, true_and, and_true, nx_push, nx_put, nx_mark]; try omega)) only [go_sem, ↓reduceIte, Nat.reduceAdd, Nat.reduceMul, Nat.reduceSub, Int.reduceToNat, UInt8.reduceToNat, Nat.reduceLeDiff, Nat.reduceEqDiff, Nat.sub_zero, Int.add_zero, Int.zero_add, Nat.add_zero, Nat.zero_add, Nat.zero_mul]; try exact hg) (by omega)
    have e2 : Ext id (H.mark []) H2 := (E0).trans E2 (by omega)
    have hm2 : H2.marks = [] := e2.marks
    have nx2 := E2.next
    simp only [nx_put, nx_mark] at nx2
    have v21 := O2.one
    have v2c := cells_of_one v21
    simp (disch := first | omega | (simp only [List.length_cons, List.length_nil, true_and, and_true, nx_push, nx_put, nx_mark]; try omega)) only [go_sem, ↓reduceIte, Nat.reduceAdd, Nat.reduceMul, Nat.reduceSub, Int.reduceToNat, UInt8.reduceToNat, Nat.reduceLeDiff, Nat.reduceEqDiff, Nat.sub_zero, Int.add_zero, Int.zero_add, Nat.add_zero, Nat.zero_add, Nat.zero_mul, gb, v21, v2c, hm2]
    exact h _ ((Ext.mark e2).put (Nat.le_refl _) (by first | omega | (simp only [nx_push, nx_put, nx_mark]; try omega)) _) ⟨_, v', by simp (disch := first | omega | (simp only [List.length_cons, List.length_nil, true_and, and_true, nx_push, nx_put, nx_mark]; try omega)) only [go_sem, ↓reduceIte, Nat.reduceAdd, Nat.reduceMul, Nat.reduceSub, Int.reduceToNat, UInt8.reduceToNat, Nat.reduceLeDiff, Nat.reduceEqDiff, Nat.sub_zero, Int.add_zero, Int.zero_add, Nat.add_zero, Nat.zero_add, Nat.zero_mul], .inr rfl, (O2.mark (l := H.marks)).put (by omega)⟩
theorem Len_run {id : Nat} {s : List UInt8} (hB : BO id s H) (h : K (.i .i64 s.length) H) : @R S (.f n_strings_Builder_Len) [.p (some (id, 0))] H ⟨K⟩ := by
  obtain ⟨a, v, hg, ha, hv⟩ := hB
  have l1 := hv.len
  refine run_fn2 rfl rfl ?_
  unfold bd_strings_Builder_Len
  simp (disch := first | omega | (simp only [List.length_cons, List.length_nil, true_and, and_true, nx_push, nx_put, nx_mark]; try omega)) only [go_sem, ↓reduceIte, Nat.reduceAdd, Nat.reduceMul, Nat.reduceSub, Int.reduceToNat, UInt8.reduceToNat, Nat.reduceLeDiff, Nat.reduceEqDiff, Nat.sub_zero, Int.add_zero, Int.zero_add, Nat.add_zero, Nat.zero_add, Nat.zero_mul, hg, l1]
  exact h
def byC (s : List UInt8) : List AV := s.map fun c => (AV.i .u8 (c.toNat : Int))
/-- A Builder that is told. -/
def BS (id : Nat) (s : List UInt8) (H : Mem) : Prop := ∃ a v, H.get id = .mem [.p a, v] 0 ty_strings_Builder true 0 ∧ ((v = .nsl ∧ s = []) ∨ ∃ bid, v = .sl bid 0 s.length none ∧ ((∃ frz, H.get bid = .mem (byC s) 1 ty_uint8 true frz) ∨ H.get bid = .froz (byC s) ty_uint8) ∧ id < bid ∧ s ≠ [])
theorem BO.told {id : Nat} {s : List UInt8} (h : BO id s H) (hs : s ≠ []) : BS id s H := by
  obtain ⟨a, v, hg, ha, hv⟩ := h
  rcases hv with ⟨e, _⟩ | ⟨bid, cells, e1, e2, e3, e4, e5⟩
  · exact absurd e hs
  · refine ⟨a, v, hg, .inr ⟨bid, e1, .inl ⟨0, ?_⟩, by omega, hs⟩⟩
    rw [e2]
    congr 1
    apply List.ext_getElem?
    intro j
    by_cases hj : j < s.length
    · have := e5.el j (s[j]) (by simp [hj])
      simp only [Rb, Nat.mul_one, Nat.zero_add] at this
      have h4 := congrArg (fun l => l[0]?) this
      simp only [List.getElem?_take_of_lt Nat.zero_lt_one, List.getElem?_drop, Nat.add_zero] at h4
      rw [h4]; simp [byC, hj]
    · rw [List.getElem?_eq_none (by omega), List.getElem?_eq_none (by simp [byC]; omega)]
theorem strL_by : ∀ s : List UInt8, strL (byC s) = some s
  | [] => rfl
  | c :: r => by
    have := strL_by r
    simp only [byC, List.map_cons, strL] at this ⊢
    have hc := c.toNat_lt
    rw [if_pos (by omega), this]; simp
theorem String_run {id : Nat} {s : List UInt8} (hB : BS id s H) (hw : Wf H) (hsl : s.length ≤ 140737488355328) (h : ∀ H', Ext (id + 1) H H' → BS id s H' → K (.s s) H') : @R S (.f n_strings_Builder_String) [.p (some (id, 0))] H ⟨K⟩ := by
  obtain ⟨a, v, hg, hv⟩ := hB
  have SX : S.X = Xr := rfl
  have e1 : extA n_internal_bytealg_IndexByteString n_internal_bytealg_CountString n_strings_Join (.f n_strings_Builder_String) [.p (some (id, 0))] H = none := rfl
  rcases hv with ⟨rfl, rfl⟩ | ⟨bid, rfl, hb, hlt, hs⟩
  · refine run_told (v := .s []) (H' := H) ?_ (h H (Ext.refl hw) ⟨a, .nsl, hg, .inl ⟨rfl, rfl⟩⟩)
    rw [SX]; unfold Xr; rw [e1]
    show (match H.get id with
        | .mem [.p _, .nsl] 0 t true 0 => bif Nat.beq t ty_strings_Builder then some ((.s [] : AV), H) else none
        | .mem [.p _, .sl bid 0 len none] 0 t true 0 => bif Nat.beq t ty_strings_Builder then match H.get bid with
          | .mem l 1 t2 true _ => bif Nat.beq t2 ty_uint8 && Nat.beq l.length len && !Nat.beq bid id && !Nat.beq len 0 && Nat.ble len 140737488355328 then match strL l with
            | some x => some (.s x, H.put bid (.froz l t2))
            | none => none
            else none
          | .froz l t2 => bif Nat.beq t2 ty_uint8 && Nat.beq l.length len && !Nat.beq bid id && !Nat.beq len 0 && Nat.ble len 140737488355328 then match strL l with
            | some x => some (.s x, H.put bid (.froz l t2))
            | none => none
            else none
          | _ => none
          else none
        | _ => none) = _
    rw [hg]; rfl
  · have hbl : bid < H.next := by rcases hb with ⟨frz, hb⟩ | hb <;> exact hw.lt hb (by simp)
    have hne : bid ≠ id := by omega
    refine run_told (v := .s s) (H' := H.put bid (.froz (byC s) ty_uint8)) ?_ (h _ ((Ext.refl hw).put (by omega) hbl _) ⟨a, .sl bid 0 s.length none, by simp (disch := first | omega | (simp only [List.length_cons, List.length_nil, true_and, and_true, nx_push, nx_put, nx_mark]; try omega)) only [go_sem, ↓reduceIte, Nat.reduceAdd, Nat.reduceMul, Nat.reduceSub, Int.reduceToNat, UInt8.reduceToNat, Nat.reduceLeDiff, Nat.reduceEqDiff, Nat.sub_zero, Int.add_zero, Int.zero_add, Nat.add_zero, Nat.zero_add, Nat.zero_mul, hg], .inr ⟨bid, rfl, .inr (by simp (disch := first | omega | (simp only [List.length_cons, List.length_nil, true_and, and_true, nx_push, nx_put, nx_mark]; try omega)) only [go_sem, ↓reduceIte, Nat.reduceAdd, Nat.reduceMul, Nat.reduceSub, Int.reduceToNat, UInt8.reduceToNat, Nat.reduceLeDiff, Nat.reduceEqDiff, Nat.sub_zero, Int.add_zero, Int.zero_add, Nat.add_zero, Nat.zero_add, Nat.zero_mul]), hlt, hs⟩⟩)
    rw [SX]; unfold Xr; rw [e1]
    have hlen : (byC s).length = s.length := by simp [byC]
    have b1 : Nat.beq (byC s).length s.length = true := by rw [hlen]; exact Nat.beq_refl _
    have b2 : Nat.beq bid id = false := by rw [beqN]; simp [hne]
    have b3 : Nat.beq s.length 0 = false := by
      rw [beqN]
      have : s.length ≠ 0 := fun e => hs (List.eq_nil_of_length_eq_zero e)
      simp [this]
    have b4 : Nat.beq ty_uint8 ty_uint8 = true := rfl
    have b5 : Nat.beq ty_strings_Builder ty_strings_Builder = true := rfl
    have b6 : Nat.ble s.length 140737488355328 = true := by rw [Nat.ble_eq]; exact hsl
    have st := strL_by s
    rcases hb with ⟨frz, hb⟩ | hb
    all_goals
      show (match H.get id with
        | .mem [.p _, .nsl] 0 t true 0 => bif Nat.beq t ty_strings_Builder then some ((.s [] : AV), H) else none
        | .mem [.p _, .sl bid 0 len none] 0 t true 0 => bif Nat.beq t ty_strings_Builder then match H.get bid with
          | .mem l 1 t2 true _ => bif Nat.beq t2 ty_uint8 && Nat.beq l.length len && !Nat.beq bid id && !Nat.beq len 0 && Nat.ble len 140737488355328 then match strL l with
            | some x => some (.s x, H.put bid (.froz l t2))
            | none => none
            else none
          | .froz l t2 => bif Nat.beq t2 ty_uint8 && Nat.beq l.length len && !Nat.beq bid id && !Nat.beq len 0 && Nat.ble len 140737488355328 then match strL l with
            | some x => some (.s x, H.put bid (.froz l t2))
            | none => none
            else none
          | _ => none
          else none
        | _ => none) = _
      rw [hg]
      simp only [hb, b1, b2, b3, b4, b5, b6, st]
      rfl
theorem BO.grow {id m : Nat} {s : List UInt8} {H' : Mem} (h : BO id s H) (w : Wf H) (k : Ext m H H') (hk : H.next ≤ m) : BO id s H' := by
  obtain ⟨a, v, hg, ha, hv⟩ := h
  have hid := w.lt hg (by simp)
  exact ⟨a, v, k.of hg (by omega), ha, hv.grow Rb_mono w k hk⟩
def textL : List FactT → List UInt8 → Option (List UInt8)
  | [], acc => some acc
  | x :: r, acc => if 200000 < acc.length + ((toldF x).length + 1) then none else textL r (acc ++ (toldF x ++ [10]))
def toldOkH (H : Mem) (x : FactT) : Prop := okN H x.N ∧ (toldF x).length ≤ 1000000 ∧ x.L.length ≤ 1000000
def toldOk (x : FactT) : Prop := (0 ≤ x.N ∧ x.N < 100) ∧ (toldF x).length ≤ 1000000 ∧ x.L.length ≤ 1000000
theorem toldOk.h {H : Mem} {x : FactT} (h : toldOk x) : toldOkH H x := ⟨⟨h.1.1, .inl h.1.2⟩, h.2⟩
theorem Text_loop {id : Nat} {v : AV} {l : List FactT} {H0 : Mem} {Q : Ex → Tr → Mem → Prop} (hv : ∀ H', Ext id H0 H' → SlR 7 Rfact H'.get v l) (hn : l.length ≤ 1000000) (hok : ∀ H', Ext id H0 H' → ∀ x ∈ l, toldOkH H' x) : ∀ (r : List FactT) (i : Nat) (f : Nat → AV) (H : Mem) (acc : List UInt8), l.drop i = r → i + r.length = l.length → Ext id H0 H → BO id acc H → acc.length ≤ 200000 → f 4 = .p (some (id, 0)) → f 10 = v → f 11 = .i .i64 l.length → f 12 = .i .i64 i →
    (∀ f' H', textL r acc = none → f' 2 = .s [] → f' 3 = .b false → Ext id H0 H' → Q .rt (trO 38 f') H') → (∀ s f' H', textL r acc = some s → (r = [] → H' = H) → f' 0 = f 0 → f' 4 = .p (some (id, 0)) → BO id s H' → s.length ≤ 200000 → Ext id H0 H' → Q (.ex 0) (trO 38 f') H') → @W S false (.loop lp_role_Text_0) (trO 38 f) H ⟨Q⟩ := by
  intro r
  induction r with
  | nil =>
    intro i f H acc h1 h3 hx hB hs f4 f10 f11 f12 k1 k2
    simp at h3
    rw [w_loop]
    unfold lp_role_Text_0
    simp (disch := first | omega | (simp only [List.length_cons, List.length_nil, true_and, and_true, nx_push, nx_put, nx_mark]; try omega)) only [go_sem, ↓reduceIte, Nat.reduceAdd, Nat.reduceMul, Nat.reduceSub, Int.reduceToNat, UInt8.reduceToNat, Nat.reduceLeDiff, Nat.reduceEqDiff, Nat.sub_zero, Int.add_zero, Int.zero_add, Nat.add_zero, Nat.zero_add, Nat.zero_mul, f4, f10, f11, f12]
    exact atQ 38 rfl (k2 acc _ H rfl (fun _ => rfl) rfl rfl hB hs hx)
  | cons x r ih =>
    intro i f H acc h1 h3 hE hB hs f4 f10 f11 f12 k1 k2
    simp at h3
    have hx : l[i]? = some x := by rw [← List.head?_drop, h1]; rfl
    have hr1 : l.drop (i + 1) = r := by rw [← List.drop_drop, h1]; rfl
    obtain ⟨okn, okl, okL⟩ := hok H hE x (List.mem_of_getElem? hx)
    obtain ⟨jd, p, c, y1, y2, y3, y4, y5, y6⟩ := (hv H hE).at_ hx
    obtain ⟨g, rfl, gr⟩ := y2
    have hjd := hE.wf jd y6
    have g1 := gr.one
    have hidn : id < H.next := by obtain ⟨a, u, hg, _⟩ := hB; exact hE.wf.lt hg (by simp)
    rw [w_loop]
    unfold lp_role_Text_0
    simp only [factC] at y4
    simp (disch := first | omega | (simp only [List.length_cons, List.length_nil, true_and, and_true, nx_push, nx_put, nx_mark]; try omega)) only [go_sem, ↓reduceIte, Nat.reduceAdd, Nat.reduceMul, Nat.reduceSub, Int.reduceToNat, UInt8.reduceToNat, Nat.reduceLeDiff, Nat.reduceEqDiff, Nat.sub_zero, Int.add_zero, Int.zero_add, Nat.add_zero, Nat.zero_add, Nat.zero_mul, f4, f10, f11, f12, y1, y4, g1]
    have hE1 : ∀ o1 o2, Ext H.next H ((H.push o1).put H.next o2) := fun _ _ => ((Ext.refl hE.wf).push _ (Nat.le_refl _)).put (Nat.le_refl _) (by first | omega | (simp only [nx_push, nx_put, nx_mark]; try omega)) _
    refine told_run (x := x) ⟨g, rfl, gr.mono Rs_mono (le_up (hE1 _ _) hE.wf (Nat.le_refl _))⟩ (hE1 _ _).wf (okn.ext hE.wf (hE1 _ _) (Nat.le_refl _)) (by omega) okL (fun H2 x2 => ?_)
    have hE2 : Ext H.next H H2 := (hE1 _ _).trans x2 (by simp only [nx_push, nx_put]; omega)
    have n2 := hE2.next
    have B2 := hB.grow hE.wf hE2 (Nat.le_refl _)
    simp (disch := first | omega | (simp only [List.length_cons, List.length_nil, true_and, and_true, nx_push, nx_put, nx_mark]; try omega)) only [go_sem, ↓reduceIte, Nat.reduceAdd, Nat.reduceMul, Nat.reduceSub, Int.reduceToNat, UInt8.reduceToNat, Nat.reduceLeDiff, Nat.reduceEqDiff, Nat.sub_zero, Int.add_zero, Int.zero_add, Nat.add_zero, Nat.zero_add, Nat.zero_mul]
    refine Write_run B2 hE2.wf (by simp; omega) (fun H3 x3 B3 => ?_)
    have hE3 : Ext id H0 H3 := (hE.trans hE2 (by omega)).trans x3 (Nat.le_refl _)
    simp (disch := first | omega | (simp only [List.length_cons, List.length_nil, true_and, and_true, nx_push, nx_put, nx_mark]; try omega)) only [go_sem, ↓reduceIte, Nat.reduceAdd, Nat.reduceMul, Nat.reduceSub, Int.reduceToNat, UInt8.reduceToNat, Nat.reduceLeDiff, Nat.reduceEqDiff, Nat.sub_zero, Int.add_zero, Int.zero_add, Nat.add_zero, Nat.zero_add, Nat.zero_mul]
    refine Len_run B3 ?_
    have hlen : ((acc ++ (toldF x ++ [10])).length : Int) = (acc.length : Int) + ((toldF x).length + 1) := by simp
    by_cases hb : 200000 < acc.length + ((toldF x).length + 1)
    · simp (disch := first | omega | (simp only [List.length_cons, List.length_nil, true_and, and_true, nx_push, nx_put, nx_mark]; try omega)) only [go_sem, ↓reduceIte, Nat.reduceAdd, Nat.reduceMul, Nat.reduceSub, Int.reduceToNat, UInt8.reduceToNat, Nat.reduceLeDiff, Nat.reduceEqDiff, Nat.sub_zero, Int.add_zero, Int.zero_add, Nat.add_zero, Nat.zero_add, Nat.zero_mul, hlen]
      exact atQ 38 rfl (k1 _ H3 (by rw [textL, if_pos hb]) rfl rfl hE3)
    · simp (disch := first | omega | (simp only [List.length_cons, List.length_nil, true_and, and_true, nx_push, nx_put, nx_mark]; try omega)) only [go_sem, ↓reduceIte, Nat.reduceAdd, Nat.reduceMul, Nat.reduceSub, Int.reduceToNat, UInt8.reduceToNat, Nat.reduceLeDiff, Nat.reduceEqDiff, Nat.sub_zero, Int.add_zero, Int.zero_add, Nat.add_zero, Nat.zero_add, Nat.zero_mul, hlen]
      have e : textL (x :: r) acc = textL r (acc ++ (toldF x ++ [10])) := by rw [textL, if_neg hb]
      refine atW 38 rfl (ih (i + 1) _ H3 _ hr1 (by omega) hE3 B3 (by simp; omega) rfl rfl rfl rfl (fun f' H' a => k1 f' H' (e.trans a)) (fun s f' H' a _ b => k2 s f' H' (e.trans a) (fun e => nomatch e) b))
theorem textL_ne : ∀ (r : List FactT) (acc s : List UInt8), textL r acc = some s → acc ≠ [] ∨ r ≠ [] → s ≠ []
  | [], acc, s, h, hn => by simp only [textL, Option.some.injEq] at h; subst h; rcases hn with h | h; exact h; exact absurd rfl h
  | x :: r, acc, s, h, _ => by
    rw [textL] at h
    split at h
    · cases h
    · exact textL_ne r _ s h (.inl (by simp))
theorem putN_L (i n : Int) (w : List UInt8) (x : FactT) : (putN i n w x).L.length ≤ x.L.length + 1 := by
  unfold putN; repeat' split
  all_goals simp
theorem fillF_L {F : Form} : ∀ (ws : List WordT) (i : Nat) (x y : FactT), fillF F i ws x = .ok y → y.L.length ≤ x.L.length + ws.length
  | [], _, x, y, h => by simp only [fillF, Except.ok.injEq] at h; subst h; simp
  | w :: r, i, x, y, h => by
    rw [fillF] at h
    split at h
    · split at h
      · have := fillF_L r _ _ y h; simp at this ⊢; omega
      · cases h
    · split at h
      · have := fillF_L r _ _ y h
        have := putN_L i F.names w.1 x
        simp; omega
      · cases h
theorem factF_L (l : LineT) : (factF l).1.L.length ≤ l.2.length := by
  obtain ⟨a, ws⟩ := l
  cases ws with
  | nil => simp [factF, fact0]
  | cons w r =>
    simp only [factF]
    split
    · simp [fact0]
    · split
      · simp [fact0]
      · split
        · simp [fact0]
        · rename_i h
          have := fillF_L _ _ _ _ h
          simp at this ⊢; omega
theorem goF_ok : ∀ (r : List LineT) (i : Nat) (acc : List FactT), (∀ l ∈ r, lineOk l) → (∀ x ∈ acc, x.L.length ≤ 1000000) → (∀ x ∈ (goF i r acc).1, x.L.length ≤ 1000000) ∧ (goF i r acc).1.length ≤ acc.length + r.length
  | [], _, acc, _, h => ⟨h, by simp [goF]⟩
  | l :: r, i, acc, hl, h => by
    rw [goF]
    split
    · simp
    · split
      · have := goF_ok r (i + 1) (acc ++ [(factF l).1]) (fun y hy => hl y (by simp [hy])) (fun x hx => by
          rcases List.mem_append.1 hx with hx | hx
          · exact h x hx
          · rw [List.mem_singleton.1 hx]
            have := factF_L l
            have := (hl l (by simp)).1
            omega)
        refine ⟨this.1, by have := this.2; simp at this ⊢; omega⟩
      · simp
theorem parse_ok (s : List UInt8) : (∀ x ∈ (parseF s).1, x.L.length ≤ 1000000) ∧ (parseF s).1.length ≤ 1000000 := by
  unfold parseF
  have hl := linesOf_ok s
  split
  · have := goF_ok (linesOf s).1 0 [] hl.1 (fun _ h => by simp at h)
    exact ⟨this.1, by have := this.2; simp at this; omega⟩
  · simp
theorem BS.grow {id m : Nat} {s : List UInt8} {H' : Mem} (h : BS id s H) (w : Wf H) (k : Ext m H H') (hk : H.next ≤ m) : BS id s H' := by
  obtain ⟨a, v, hg, hv⟩ := h
  have hid := w.lt hg (by simp)
  refine ⟨a, v, k.of hg (by omega), ?_⟩
  rcases hv with hv | ⟨bid, e1, e2, e3⟩
  · exact .inl hv
  · refine .inr ⟨bid, e1, ?_, e3⟩
    rcases e2 with ⟨frz, e2⟩ | e2
    · exact .inl ⟨frz, k.of e2 (by have := w.lt e2 (by simp); omega)⟩
    · exact .inr (k.of e2 (by have := w.lt e2 (by simp); omega))
def textF (l : List FactT) : List UInt8 × Bool := match textL l [] with
  | none => ([], false)
  | some s => if (parseF s).2.2 = 0 ∧ eqFs (parseF s).1 l = true then (s, true) else ([], false)
theorem Text_runH {v : AV} {l : List FactT} (hv : SlR 7 Rfact H.get v l) (hw : Wf H) (hn : l.length ≤ 1000000) (hok : ∀ x ∈ l, toldOkH H x) (h : ∀ H', Ext H.next H H' → K (.tup [.s (textF l).1, .b (textF l).2]) H') : @R S (.f n_role_Text) [v] H ⟨K⟩ := by
  refine run_fn2 rfl rfl ?_
  unfold bd_role_Text
  have l1 := hv.len
  have hE0 : ∀ o, Ext H.next (H.mark []) ((H.mark []).push o) := fun _ => (Ext.refl (H := H.mark []) hw).push _ (Nat.le_refl _)
  simp (disch := first | omega | (simp only [List.length_cons, List.length_nil, true_and, and_true, nx_push, nx_put, nx_mark]; try omega)) only [go_sem, ↓reduceIte, Nat.reduceAdd, Nat.reduceMul, Nat.reduceSub, Int.reduceToNat, UInt8.reduceToNat, Nat.reduceLeDiff, Nat.reduceEqDiff, Nat.sub_zero, Int.add_zero, Int.zero_add, Nat.add_zero, Nat.zero_add, Nat.zero_mul, l1]
  refine atW 38 rfl (Text_loop (id := H.next) (v := v) (l := l) (H0 := (H.mark []).push (AO.mem [AV.p none, AV.nsl] 0 ty_strings_Builder true 0)) (fun H' x => hv.mono Rfact_mono (le_up (H := H.mark []) ((hE0 _).trans x (Nat.le_refl _)) hw (Nat.le_refl _))) hn (fun H' x y hy => ⟨okN.ext (H := H.mark []) (hok y hy).1 hw ((hE0 _).trans x (Nat.le_refl _)) (Nat.le_refl _), (hok y hy).2⟩) l 0 _ _ [] rfl (by simp) (Ext.refl (hE0 _).wf) ⟨none, .nsl, by simp (disch := first | omega | (simp only [List.length_cons, List.length_nil, true_and, and_true, nx_push, nx_put, nx_mark]; try omega)) only [go_sem, ↓reduceIte, Nat.reduceAdd, Nat.reduceMul, Nat.reduceSub, Int.reduceToNat, UInt8.reduceToNat, Nat.reduceLeDiff, Nat.reduceEqDiff, Nat.sub_zero, Int.add_zero, Int.zero_add, Nat.add_zero, Nat.zero_add, Nat.zero_mul], .inl rfl, SlO.nil⟩ (by simp) rfl rfl rfl rfl (fun f' H' a b2 b3 c => ?_) (fun s f' H' a hnil f0 b hB hs c => ?_))
  · have e : textF l = ([], false) := by simp only [textF, a]
    rw [e] at h
    have hE := (hE0 _).trans c (Nat.le_refl _)
    have hm : H'.marks = [] := hE.marks
    simp (disch := first | omega | (simp only [List.length_cons, List.length_nil, true_and, and_true, nx_push, nx_put, nx_mark]; try omega)) only [go_sem, ↓reduceIte, Nat.reduceAdd, Nat.reduceMul, Nat.reduceSub, Int.reduceToNat, UInt8.reduceToNat, Nat.reduceLeDiff, Nat.reduceEqDiff, Nat.sub_zero, Int.add_zero, Int.zero_add, Nat.add_zero, Nat.zero_add, Nat.zero_mul, b2, b3, hm]
    exact h _ (Ext.mark hE)
  · have hE := (hE0 _).trans c (Nat.le_refl _)
    have hbs : BS H.next s H' := by
      by_cases hl : l = []
      · subst hl
        simp only [textL, Option.some.injEq] at a
        subst a
        rw [hnil rfl]
        exact ⟨none, .nsl, by simp (disch := first | omega | (simp only [List.length_cons, List.length_nil, true_and, and_true, nx_push, nx_put, nx_mark]; try omega)) only [go_sem, ↓reduceIte, Nat.reduceAdd, Nat.reduceMul, Nat.reduceSub, Int.reduceToNat, UInt8.reduceToNat, Nat.reduceLeDiff, Nat.reduceEqDiff, Nat.sub_zero, Int.add_zero, Int.zero_add, Nat.add_zero, Nat.zero_add, Nat.zero_mul], .inl ⟨rfl, rfl⟩⟩
      · exact hB.told (textL_ne l [] s a (.inr hl))
    have f0' : f' 0 = v := f0
    simp (disch := first | omega | (simp only [List.length_cons, List.length_nil, true_and, and_true, nx_push, nx_put, nx_mark]; try omega)) only [go_sem, ↓reduceIte, Nat.reduceAdd, Nat.reduceMul, Nat.reduceSub, Int.reduceToNat, UInt8.reduceToNat, Nat.reduceLeDiff, Nat.reduceEqDiff, Nat.sub_zero, Int.add_zero, Int.zero_add, Nat.add_zero, Nat.zero_add, Nat.zero_mul, b]
    refine String_run hbs hE.wf (by omega) (fun H1 x1 b1 => ?_)
    have hE1 := hE.trans x1 (by omega)
    have n1 := hE1.next
    simp only [nx_mark] at n1
    simp (disch := first | omega | (simp only [List.length_cons, List.length_nil, true_and, and_true, nx_push, nx_put, nx_mark]; try omega)) only [go_sem, ↓reduceIte, Nat.reduceAdd, Nat.reduceMul, Nat.reduceSub, Int.reduceToNat, UInt8.reduceToNat, Nat.reduceLeDiff, Nat.reduceEqDiff, Nat.sub_zero, Int.add_zero, Int.zero_add, Nat.add_zero, Nat.zero_add, Nat.zero_mul]
    refine Parse_run (by omega) hE1.wf (fun u H2 x2 hu => ?_)
    have hE2 := hE1.trans x2 n1
    have u1 := hu.one
    have hid1 : H.next < H1.next := by obtain ⟨a, u, hg, _⟩ := b1; exact hE1.wf.lt hg (by simp)
    have b2 := b1.grow hE1.wf x2 (Nat.le_refl _)
    have hm2 : H2.marks = [] := hE2.marks
    by_cases he : (parseF s).2.2 = 0
    · have pk := parse_ok s
      simp (disch := first | omega | (simp only [List.length_cons, List.length_nil, true_and, and_true, nx_push, nx_put, nx_mark]; try omega)) only [go_sem, ↓reduceIte, Nat.reduceAdd, Nat.reduceMul, Nat.reduceSub, Int.reduceToNat, UInt8.reduceToNat, Nat.reduceLeDiff, Nat.reduceEqDiff, Nat.sub_zero, Int.add_zero, Int.zero_add, Nat.add_zero, Nat.zero_add, Nat.zero_mul, u1, he, f0']
      refine EqF_run (hu.mono Rfact_mono sn_le) (hv.mono Rfact_mono (le_up (H := H.mark []) hE2 hw (Nat.le_refl _))) hE2.wf pk.2 pk.1 (fun H3 x3 => ?_)
      have hE3 := hE2.trans x3 (by have := x2.next; omega)
      have b3 := b2.grow hE2.wf x3 (Nat.le_refl _)
      have hm3 : H3.marks = [] := hE3.marks
      cases hq : eqFs (parseF s).1 l with
      | false =>
        have e : textF l = ([], false) := by simp only [textF, a]; rw [if_neg (by simp [hq])]
        rw [e] at h
        simp (disch := first | omega | (simp only [List.length_cons, List.length_nil, true_and, and_true, nx_push, nx_put, nx_mark]; try omega)) only [go_sem, ↓reduceIte, Nat.reduceAdd, Nat.reduceMul, Nat.reduceSub, Int.reduceToNat, UInt8.reduceToNat, Nat.reduceLeDiff, Nat.reduceEqDiff, Nat.sub_zero, Int.add_zero, Int.zero_add, Nat.add_zero, Nat.zero_add, Nat.zero_mul, hm3]
        exact h _ (Ext.mark hE3)
      | true =>
        have e : textF l = (s, true) := by simp only [textF, a]; rw [if_pos ⟨he, hq⟩]
        rw [e] at h
        simp (disch := first | omega | (simp only [List.length_cons, List.length_nil, true_and, and_true, nx_push, nx_put, nx_mark]; try omega)) only [go_sem, ↓reduceIte, Nat.reduceAdd, Nat.reduceMul, Nat.reduceSub, Int.reduceToNat, UInt8.reduceToNat, Nat.reduceLeDiff, Nat.reduceEqDiff, Nat.sub_zero, Int.add_zero, Int.zero_add, Nat.add_zero, Nat.zero_add, Nat.zero_mul]
        refine String_run b3 hE3.wf (by omega) (fun H4 x4 b4 => ?_)
        have hE4 := hE3.trans x4 (by omega)
        have hm4 : H4.marks = [] := hE4.marks
        simp (disch := first | omega | (simp only [List.length_cons, List.length_nil, true_and, and_true, nx_push, nx_put, nx_mark]; try omega)) only [go_sem, ↓reduceIte, Nat.reduceAdd, Nat.reduceMul, Nat.reduceSub, Int.reduceToNat, UInt8.reduceToNat, Nat.reduceLeDiff, Nat.reduceEqDiff, Nat.sub_zero, Int.add_zero, Int.zero_add, Nat.add_zero, Nat.zero_add, Nat.zero_mul, hm4]
        exact h _ (Ext.mark hE4)
    · have e : textF l = ([], false) := by simp only [textF, a]; rw [if_neg (fun k => he k.1)]
      rw [e] at h
      simp (disch := first | omega | (simp only [List.length_cons, List.length_nil, true_and, and_true, nx_push, nx_put, nx_mark]; try omega)) only [go_sem, ↓reduceIte, Nat.reduceAdd, Nat.reduceMul, Nat.reduceSub, Int.reduceToNat, UInt8.reduceToNat, Nat.reduceLeDiff, Nat.reduceEqDiff, Nat.sub_zero, Int.add_zero, Int.zero_add, Nat.add_zero, Nat.zero_add, Nat.zero_mul, u1, he, hm2]
      exact h _ (Ext.mark hE2)
theorem Text_run {v : AV} {l : List FactT} (hv : SlR 7 Rfact H.get v l) (hw : Wf H) (hn : l.length ≤ 1000000) (hok : ∀ x ∈ l, toldOk x) (h : ∀ H', Ext H.next H H' → K (.tup [.s (textF l).1, .b (textF l).2]) H') : @R S (.f n_role_Text) [v] H ⟨K⟩ := Text_runH hv hw hn (fun x hx => (hok x hx).h) h
end Go.Fw.Ro
end
section
/- What the document fixes of role policies. -/
namespace Go.Fw.Ro
open Go Go.Fw Go.Fw.Sys
set_option maxRecDepth 100000
variable {H : Mem} {K : AV → Mem → Prop}
def awk : List UInt8 := [117, 115, 101, 114, 32, 97, 10, 115, 115, 100, 32, 120, 32, 50, 32, 114, 32, 115, 10, 115, 101, 115, 115, 105, 111, 110, 32, 115, 32, 97, 10, 103, 114, 97, 110, 116, 32, 114, 32, 100, 111, 32, 105, 116]
def awkL : List FactT := [⟨1, [97], [], [], 0, [], 0⟩, ⟨6, [120], [], [], 2, [[114], [115]], 7⟩, ⟨8, [115], [97], [], 0, [], 19⟩, ⟨5, [114], [100, 111], [105, 116], 0, [], 31⟩]
theorem awk_parse : parseF awk = (awkL, 0, 0) := by decide +kernel
theorem awk_text : textF awkL = (awk ++ [10], true) := by decide +kernel
theorem awk2 : parseF [117, 115, 101, 114, 32, 97, 32, 98] = ([], 0, 9) := by decide +kernel
theorem awk3 : parseF [114, 111, 108, 101, 32, 65] = ([], 5, 15) := by decide +kernel
theorem awake_run (hw : Wf H) (h : ∀ H', Ext H.next H H' → K (.b true) H') : @R S (.f n_entaillaw13_awake) [] H ⟨K⟩ := by
  refine run_fn2 rfl rfl ?_
  unfold bd_entaillaw13_awake
  have ea : ([117, 115, 101, 114, 32, 97, 10, 115, 115, 100, 32, 120, 32, 50, 32, 114, 32, 115, 10, 115, 101, 115, 115, 105, 111, 110, 32, 115, 32, 97, 10, 103, 114, 97, 110, 116, 32, 114, 32, 100, 111, 32, 105, 116] : List UInt8) = awk := rfl
  have eb : ([117, 115, 101, 114, 32, 97, 10, 115, 115, 100, 32, 120, 32, 50, 32, 114, 32, 115, 10, 115, 101, 115, 115, 105, 111, 110, 32, 115, 32, 97, 10, 103, 114, 97, 110, 116, 32, 114, 32, 100, 111, 32, 105, 116, 10] : List UInt8) = awk ++ [10] := rfl
  rw [ea, eb]
  simp (disch := first | omega | (simp only [List.length_cons, List.length_nil, true_and, and_true, nx_push, nx_put, nx_mark]; try omega)) only [go_sem, ↓reduceIte, Nat.reduceAdd, Nat.reduceMul, Nat.reduceSub, Int.reduceToNat, UInt8.reduceToNat, Nat.reduceLeDiff, Nat.reduceEqDiff, Nat.sub_zero, Int.add_zero, Int.zero_add, Nat.add_zero, Nat.zero_add, Nat.zero_mul]
  refine Parse_run (H := H.mark []) (by simp [awk]) hw (fun v H1 x1 hv => ?_)
  rw [awk_parse] at hv ⊢
  simp only at hv ⊢
  have v1 := hv.one
  have l1 := hv.len
  simp (disch := first | omega | (simp only [List.length_cons, List.length_nil, true_and, and_true, nx_push, nx_put, nx_mark]; try omega)) only [go_sem, ↓reduceIte, Nat.reduceAdd, Nat.reduceMul, Nat.reduceSub, Int.reduceToNat, UInt8.reduceToNat, Nat.reduceLeDiff, Nat.reduceEqDiff, Nat.sub_zero, Int.add_zero, Int.zero_add, Nat.add_zero, Nat.zero_add, Nat.zero_mul, v1]
  refine Text_run (hv.mono Rfact_mono sn_le) x1.wf (by simp [awkL]) (by decide +kernel : ∀ x ∈ awkL, ((0 ≤ x.N ∧ x.N < 100) ∧ (toldF x).length ≤ 1000000 ∧ x.L.length ≤ 1000000)) (fun H2 x2 => ?_)
  rw [awk_text]
  simp only
  simp (disch := first | omega | (simp only [List.length_cons, List.length_nil, true_and, and_true, nx_push, nx_put, nx_mark]; try omega)) only [go_sem, ↓reduceIte, Nat.reduceAdd, Nat.reduceMul, Nat.reduceSub, Int.reduceToNat, UInt8.reduceToNat, Nat.reduceLeDiff, Nat.reduceEqDiff, Nat.sub_zero, Int.add_zero, Int.zero_add, Nat.add_zero, Nat.zero_add, Nat.zero_mul]
  refine Parse_run (by simp) x2.wf (fun v3 H3 x3 hv3 => ?_)
  rw [awk2] at hv3 ⊢
  simp only at hv3 ⊢
  have v31 := hv3.one
  simp (disch := first | omega | (simp only [List.length_cons, List.length_nil, true_and, and_true, nx_push, nx_put, nx_mark]; try omega)) only [go_sem, ↓reduceIte, Nat.reduceAdd, Nat.reduceMul, Nat.reduceSub, Int.reduceToNat, UInt8.reduceToNat, Nat.reduceLeDiff, Nat.reduceEqDiff, Nat.sub_zero, Int.add_zero, Int.zero_add, Nat.add_zero, Nat.zero_add, Nat.zero_mul, v31]
  refine Parse_run (by simp) x3.wf (fun v4 H4 x4 hv4 => ?_)
  rw [awk3] at hv4 ⊢
  simp only at hv4 ⊢
  have v41 := hv4.one
  have hE := ((x1.trans x2 x1.next).trans x3 (Nat.le_trans x1.next x2.next)).trans x4 (Nat.le_trans x1.next (Nat.le_trans x2.next x3.next))
  have hE14 := (x2.trans x3 x2.next).trans x4 (Nat.le_trans x2.next x3.next)
  have R : SlR 7 Rfact H4.get v awkL := (hv.mono Rfact_mono sn_le).mono Rfact_mono (le_up hE14 x1.wf (Nat.le_refl _))
  have hm : H4.marks = [] := hE.marks
  obtain ⟨i1, p1, c1, y1, y2, y3, y4, y5, y6⟩ := R.at_ (j := 1) rfl
  obtain ⟨i3, p3, c3, z1, z2, z3, z4, z5, z6⟩ := R.at_ (j := 3) rfl
  obtain ⟨g, rfl, gr⟩ := y2
  obtain ⟨g', rfl, gr'⟩ := z2
  have lg := gr.len
  have y10 : ixVS 7 v (.i .i64 1) = some (.p (some (i1, p1))) := y1
  have z10 : ixVS 7 v (.i .i64 3) = some (.p (some (i3, p3))) := z1
  have k0 : ldO (H4.get i1) false 1 p1 = some (.i .i64 6) := y3 0 (by omega)
  have k4 : ldO (H4.get i1) false 1 (p1 + 4) = some (.i .i64 2) := y3 4 (by omega)
  have k5 : ldO (H4.get i1) false 1 (p1 + 5) = some g := y3 5 (by omega)
  have k6 : ldO (H4.get i1) false 1 (p1 + 6) = some (.i .i64 7) := y3 6 (by omega)
  have m3 : ldO (H4.get i3) false 1 (p3 + 3) = some (.s [105, 116]) := z3 3 (by omega)
  have l4 : lenVS v = some (.i .i64 4) := l1
  have l5 : lenVS g = some (.i .i64 2) := lg
  simp (disch := first | omega | (simp only [List.length_cons, List.length_nil, true_and, and_true, nx_push, nx_put, nx_mark]; try omega)) only [go_sem, ↓reduceIte, Nat.reduceAdd, Nat.reduceMul, Nat.reduceSub, Int.reduceToNat, UInt8.reduceToNat, Nat.reduceLeDiff, Nat.reduceEqDiff, Nat.sub_zero, Int.add_zero, Int.zero_add, Nat.add_zero, Nat.zero_add, Nat.zero_mul, v41, l4, l5, y10, z10, k0, k4, k5, k6, m3, hm]
  exact h _ (Ext.mark hE)
end Go.Fw.Ro
end
section
/- What is told of facts is read as the same: a plain law. -/
namespace Go.Fw.Ro
open Go Go.Fw
/-- A fact's words. -/
def tw (x : FactT) : List (List UInt8) := match formF (kwF x.kind) with
  | none => []
  | some F => kwF x.kind :: [x.A, x.B, x.C].take F.names.toNat ++ (if F.number = true then [Lib.decDigits x.N.toNat] else []) ++ x.L
theorem toldF_tw (x : FactT) : toldF x = joinF [32] (tw x) := by
  unfold toldF tw
  cases formF (kwF x.kind) <;> rfl
def at1 (x : FactT) (a : Int) : FactT := { x with at_ := a }
theorem tw_at (x : FactT) (a : Int) : tw (at1 x a) = tw x := rfl
theorem fill_at {F : Form} {a : Int} : ∀ (r r' : List (List UInt8 × Int)) (i : Nat) (x y : FactT), r'.map (·.1) = r.map (·.1) → fillF F i r x = .ok y → fillF F i r' (at1 x a) = .ok (at1 y a)
  | [], r', i, x, y, h, e => by
    cases r' with
    | nil => simp only [fillF, Except.ok.injEq] at e; subst e; rfl
    | cons => simp at h
  | w :: r, [], i, x, y, h, e => by simp at h
  | w :: r, w' :: r', i, x, y, h, e => by
    simp only [List.map_cons, List.cons.injEq] at h
    obtain ⟨h1, h2⟩ := h
    rw [fillF] at e ⊢
    rw [h1]
    split at e
    · rename_i c
      rw [if_pos c]
      split at e
      · exact fill_at r r' _ _ _ h2 e
      · cases e
    · rename_i c
      rw [if_neg c]
      split at e
      · rename_i c2
        rw [if_pos c2]
        have := fill_at (a := a) r r' _ _ _ h2 e
        rw [show putN i F.names w.1 (at1 x a) = at1 (putN i F.names w.1 x) a by unfold putN at1; split; rfl; split; rfl; split <;> rfl]
        exact this
      · cases e
theorem fact_at {a a' : Int} {ps ps' : List (List UInt8 × Int)} {x : FactT} (hp : ps'.map (·.1) = ps.map (·.1)) (h : factF (a, ps) = (x, 0, 0)) : factF (a', ps') = (at1 x a', 0, 0) := by
  cases ps with
  | nil => simp [factF] at h
  | cons w r =>
    cases ps' with
    | nil => simp at hp
    | cons w' r' =>
      simp only [List.map_cons, List.cons.injEq] at hp
      obtain ⟨h1, h2⟩ := hp
      have hl : r'.length = r.length := by have := congrArg List.length h2; simpa using this
      simp only [factF] at h ⊢
      rw [h1]
      split at h
      · simp at h
      · rename_i F hF
        simp only [hF, hl]
        split at h
        · simp at h
        · rename_i hc
          rw [if_neg hc]
          split at h
          · rename_i q e he
            simp only [Prod.mk.injEq] at h
            rcases fillF_err he with e9 | e9 <;> omega
          · rename_i y hy
            simp only [Prod.mk.injEq, and_true] at h
            subst h
            have := fill_at (a := a') r r' 0 _ _ h2 hy
            rw [show at1 (⟨F.kind, [], [], [], 0, [], a⟩ : FactT) a' = ⟨F.kind, [], [], [], 0, [], a'⟩ from rfl] at this
            rw [this]
theorem fill_rest {F : Form} : ∀ (r : List (List UInt8 × Int)) (i : Nat) (x y : FactT), F.names ≤ (i : Int) → (F.number = true → F.names < (i : Int)) → fillF F i r x = .ok y → y = { x with L := x.L ++ r.map (·.1) } ∧ ∀ w ∈ r.map (·.1), isName w = true
  | [], i, x, y, h, hn, e => by
    simp only [fillF, Except.ok.injEq] at e
    subst e
    exact ⟨by simp, by simp⟩
  | w :: r, i, x, y, h, hn, e => by
    rw [fillF] at e
    rw [if_neg (fun c => by have := hn c.1; omega)] at e
    split at e
    · rename_i c2
      have := fill_rest r (i + 1) _ y (by omega) (fun c => by have := hn c; omega) e
      obtain ⟨e1, e2⟩ := this
      rw [show putN i F.names w.1 x = { x with L := x.L ++ [w.1] } by unfold putN; rw [if_pos h]] at e1
      refine ⟨by rw [e1]; simp, fun u hu => ?_⟩
      rcases List.mem_cons.1 hu with rfl | hu
      · exact c2
      · exact e2 u hu
    · cases e
theorem isD_toNat {a : UInt8} (h : isD a = true) : 48 ≤ a.toNat ∧ a.toNat ≤ 57 := by simpa [isD] using h
theorem name_digs : ∀ l : List UInt8, l ≠ [] → l.length ≤ 30 → (∀ c ∈ l, isD c = true) → isName l = true
  | [], h, _, _ => absurd rfl h
  | c :: r, _, hl, hd => by
    have h1 := isD_toNat (hd c (by simp))
    have pl : ∀ u ∈ c :: r, isPlain u.toNat = true := fun u hu => by
      have := isD_toNat (hd u hu)
      simp [isPlain, isFirst]; omega
    simp only [isName, Bool.and_eq_true, decide_eq_true_eq, List.all_eq_true]
    refine ⟨⟨?_, hl⟩, pl⟩
    simp [isFirst]; omega
theorem numF_dec {w : List UInt8} {n : Int} (h : numF w = some n) : Lib.decDigits n.toNat = w ∧ isName w = true ∧ 0 ≤ n ∧ n < 100 := by
  match w, h with
  | [a], h =>
    simp only [numF] at h
    split at h
    · rename_i c
      have ha := isD_toNat c.1
      simp only [Option.some.injEq] at h
      subst h
      have e : (((a.toNat : Int) - 48).toNat) = a.toNat - 48 := by omega
      refine ⟨?_, name_digs _ (by simp) (by simp) (by simp [c.1]), by omega, by omega⟩
      rw [e, Lib.decDigits, dif_pos (by omega), show 48 + (a.toNat - 48) = a.toNat by omega, UInt8.ofNat_toNat]
    · cases h
  | [a, b], h =>
    simp only [numF] at h
    split at h
    · rename_i c
      have ha := isD_toNat c.1
      have hb := isD_toNat c.2.1
      have h48 := c.2.2
      simp only [Option.some.injEq] at h
      subst h
      have e : ((10 * ((a.toNat : Int) - 48) + ((b.toNat : Int) - 48)).toNat) = 10 * (a.toNat - 48) + (b.toNat - 48) := by omega
      refine ⟨?_, name_digs _ (by simp) (by simp) (by simp [c.1, c.2.1]), by omega, by omega⟩
      rw [e, Lib.decDigits, dif_neg (by omega), Lib.decDigits, dif_pos (by omega)]
      rw [show 48 + (10 * (a.toNat - 48) + (b.toNat - 48)) / 10 = a.toNat by omega, show 48 + (10 * (a.toNat - 48) + (b.toNat - 48)) % 10 = b.toNat by omega, UInt8.ofNat_toNat, UInt8.ofNat_toNat]
      rfl
    · cases h
  | [], h => simp [numF] at h
  | _ :: _ :: _ :: _, h => simp [numF] at h
theorem fill_one {F : Form} {w : List UInt8 × Int} {r : List (List UInt8 × Int)} {i : Nat} {x y : FactT} (hn : ¬(F.number = true ∧ (i : Int) = F.names)) (h : fillF F i (w :: r) x = .ok y) : isName w.1 = true ∧ fillF F (i + 1) r (putN i F.names w.1 x) = .ok y := by
  rw [fillF, if_neg hn] at h
  split at h
  · rename_i c; exact ⟨c, h⟩
  · cases h
theorem fill_num {F : Form} {w : List UInt8 × Int} {r : List (List UInt8 × Int)} {i : Nat} {x y : FactT} (hn : F.number = true ∧ (i : Int) = F.names) (h : fillF F i (w :: r) x = .ok y) : ∃ n, numF w.1 = some n ∧ fillF F (i + 1) r { x with N := n } = .ok y := by
  rw [fillF, if_pos hn] at h
  split at h
  · rename_i n c; exact ⟨n, c, h⟩
  · cases h
/-- A fact that a line tells: its words are the line's. -/
theorem fact_tw {a : Int} {ps : List (List UInt8 × Int)} {x : FactT} (h : factF (a, ps) = (x, 0, 0)) : tw x = ps.map (·.1) ∧ (∀ w ∈ tw x, isName w = true) ∧ (0 ≤ x.N ∧ x.N < 100) := by
  cases ps with
  | nil => simp [factF] at h
  | cons w r =>
    simp only [factF] at h
    split at h
    · simp at h
    · rename_i F hF
      split at h
      · simp at h
      · rename_i hc
        split at h
        · rename_i q e he
          simp only [Prod.mk.injEq] at h
          rcases fillF_err he with e9 | e9 <;> omega
        · rename_i y hy
          simp only [Prod.mk.injEq, and_true] at h
          subst h
          simp only [formF] at hF
          split at hF
          · rename_i hw
            injection hF with hF; subst hF
            obtain ⟨w1, rfl⟩ : ∃ w1, r = [w1] := by
              match r, hc with
              | [w1], _ => exact ⟨w1, rfl⟩
              | [], hc => simp at hc
              | _ :: _ :: _, hc => simp only [List.length_cons] at hc; omega
            obtain ⟨n1, hy⟩ := fill_one (by simp) hy
            obtain ⟨e, hr⟩ := fill_rest _ _ _ _ (by simp) (by simp) hy
            have ht : tw y = w.1 :: w1.1 :: [] := by rw [e, hw]; rfl
            refine ⟨ht, ?_, by rw [e]; exact ⟨Int.le_refl 0, by show (0 : Int) < 100; omega⟩⟩
            rw [ht, hw]; intro u hu
            simp only [List.mem_cons, List.not_mem_nil, or_false] at hu
            rcases hu with rfl | rfl <;> first | exact n1 | decide
          rename_i hne; clear hne
          split at hF
          · rename_i hw
            injection hF with hF; subst hF
            obtain ⟨w1, rfl⟩ : ∃ w1, r = [w1] := by
              match r, hc with
              | [w1], _ => exact ⟨w1, rfl⟩
              | [], hc => simp at hc
              | _ :: _ :: _, hc => simp only [List.length_cons] at hc; omega
            obtain ⟨n1, hy⟩ := fill_one (by simp) hy
            obtain ⟨e, hr⟩ := fill_rest _ _ _ _ (by simp) (by simp) hy
            have ht : tw y = w.1 :: w1.1 :: [] := by rw [e, hw]; rfl
            refine ⟨ht, ?_, by rw [e]; exact ⟨Int.le_refl 0, by show (0 : Int) < 100; omega⟩⟩
            rw [ht, hw]; intro u hu
            simp only [List.mem_cons, List.not_mem_nil, or_false] at hu
            rcases hu with rfl | rfl <;> first | exact n1 | decide
          rename_i hne; clear hne
          split at hF
          · rename_i hw
            injection hF with hF; subst hF
            obtain ⟨w1, w2, rfl⟩ : ∃ w1 w2, r = [w1, w2] := by
              match r, hc with
              | [w1, w2], _ => exact ⟨w1, w2, rfl⟩
              | [], hc => simp at hc
              | [_], hc => simp at hc
              | _ :: _ :: _ :: _, hc => simp only [List.length_cons] at hc; omega
            obtain ⟨n1, hy⟩ := fill_one (by simp) hy
            obtain ⟨n2, hy⟩ := fill_one (by simp) hy
            obtain ⟨e, hr⟩ := fill_rest _ _ _ _ (by simp) (by simp) hy
            have ht : tw y = w.1 :: w1.1 :: w2.1 :: [] := by rw [e, hw]; rfl
            refine ⟨ht, ?_, by rw [e]; exact ⟨Int.le_refl 0, by show (0 : Int) < 100; omega⟩⟩
            rw [ht, hw]; intro u hu
            simp only [List.mem_cons, List.not_mem_nil, or_false] at hu
            rcases hu with rfl | rfl | rfl <;> first | exact n1 | exact n2 | decide
          rename_i hne; clear hne
          split at hF
          · rename_i hw
            injection hF with hF; subst hF
            obtain ⟨w1, w2, rfl⟩ : ∃ w1 w2, r = [w1, w2] := by
              match r, hc with
              | [w1, w2], _ => exact ⟨w1, w2, rfl⟩
              | [], hc => simp at hc
              | [_], hc => simp at hc
              | _ :: _ :: _ :: _, hc => simp only [List.length_cons] at hc; omega
            obtain ⟨n1, hy⟩ := fill_one (by simp) hy
            obtain ⟨n2, hy⟩ := fill_one (by simp) hy
            obtain ⟨e, hr⟩ := fill_rest _ _ _ _ (by simp) (by simp) hy
            have ht : tw y = w.1 :: w1.1 :: w2.1 :: [] := by rw [e, hw]; rfl
            refine ⟨ht, ?_, by rw [e]; exact ⟨Int.le_refl 0, by show (0 : Int) < 100; omega⟩⟩
            rw [ht, hw]; intro u hu
            simp only [List.mem_cons, List.not_mem_nil, or_false] at hu
            rcases hu with rfl | rfl | rfl <;> first | exact n1 | exact n2 | decide
          rename_i hne; clear hne
          split at hF
          · rename_i hw
            injection hF with hF; subst hF
            obtain ⟨w1, w2, w3, rfl⟩ : ∃ w1 w2 w3, r = [w1, w2, w3] := by
              match r, hc with
              | [w1, w2, w3], _ => exact ⟨w1, w2, w3, rfl⟩
              | [], hc => simp at hc
              | [_], hc => simp at hc
              | [_, _], hc => simp at hc
              | _ :: _ :: _ :: _ :: _, hc => simp only [List.length_cons] at hc; omega
            obtain ⟨n1, hy⟩ := fill_one (by simp) hy
            obtain ⟨n2, hy⟩ := fill_one (by simp) hy
            obtain ⟨n3, hy⟩ := fill_one (by simp) hy
            obtain ⟨e, hr⟩ := fill_rest _ _ _ _ (by simp) (by simp) hy
            have ht : tw y = w.1 :: w1.1 :: w2.1 :: w3.1 :: [] := by rw [e, hw]; rfl
            refine ⟨ht, ?_, by rw [e]; exact ⟨Int.le_refl 0, by show (0 : Int) < 100; omega⟩⟩
            rw [ht, hw]; intro u hu
            simp only [List.mem_cons, List.not_mem_nil, or_false] at hu
            rcases hu with rfl | rfl | rfl | rfl <;> first | exact n1 | exact n2 | exact n3 | decide
          rename_i hne; clear hne
          split at hF
          · rename_i hw
            injection hF with hF; subst hF
            obtain ⟨w1, w2, r, rfl⟩ : ∃ w1 w2 r', r = w1 :: w2 :: r' := by
              match r, hc with
              | w1 :: w2 :: r', _ => exact ⟨w1, w2, r', rfl⟩
              | [_], hc => simp at hc
              | [], hc => simp at hc
            obtain ⟨n1, hy⟩ := fill_one (by simp) hy
            obtain ⟨n, n2, hy⟩ := fill_num (by simp) hy
            obtain ⟨n3, n4, n5⟩ := numF_dec n2
            obtain ⟨e, hr⟩ := fill_rest _ _ _ _ (by simp) (by simp) hy
            have ht : tw y = w.1 :: w1.1 :: w2.1 :: r.map (·.1) := by rw [e, hw]; simp only [tw, putN]; exact congrArg (fun z => [115, 115, 100] :: w1.1 :: z :: r.map (·.1)) n3
            refine ⟨ht, ?_, by rw [e]; exact n5⟩
            rw [ht, hw]; intro u hu
            simp only [List.mem_cons] at hu
            rcases hu with rfl | rfl | rfl | hu <;> first | exact n1 | exact n4 | exact hr u hu | decide
          rename_i hne; clear hne
          split at hF
          · rename_i hw
            injection hF with hF; subst hF
            obtain ⟨w1, w2, r, rfl⟩ : ∃ w1 w2 r', r = w1 :: w2 :: r' := by
              match r, hc with
              | w1 :: w2 :: r', _ => exact ⟨w1, w2, r', rfl⟩
              | [_], hc => simp at hc
              | [], hc => simp at hc
            obtain ⟨n1, hy⟩ := fill_one (by simp) hy
            obtain ⟨n, n2, hy⟩ := fill_num (by simp) hy
            obtain ⟨n3, n4, n5⟩ := numF_dec n2
            obtain ⟨e, hr⟩ := fill_rest _ _ _ _ (by simp) (by simp) hy
            have ht : tw y = w.1 :: w1.1 :: w2.1 :: r.map (·.1) := by rw [e, hw]; simp only [tw, putN]; exact congrArg (fun z => [100, 115, 100] :: w1.1 :: z :: r.map (·.1)) n3
            refine ⟨ht, ?_, by rw [e]; exact n5⟩
            rw [ht, hw]; intro u hu
            simp only [List.mem_cons] at hu
            rcases hu with rfl | rfl | rfl | hu <;> first | exact n1 | exact n4 | exact hr u hu | decide
          rename_i hne; clear hne
          split at hF
          · rename_i hw
            injection hF with hF; subst hF
            obtain ⟨w1, w2, r, rfl⟩ : ∃ w1 w2 r', r = w1 :: w2 :: r' := by
              match r, hc with
              | w1 :: w2 :: r', _ => exact ⟨w1, w2, r', rfl⟩
              | [], hc => simp at hc
              | [_], hc => simp at hc
            obtain ⟨n1, hy⟩ := fill_one (by simp) hy
            obtain ⟨n2, hy⟩ := fill_one (by simp) hy
            obtain ⟨e, hr⟩ := fill_rest _ _ _ _ (by simp) (by simp) hy
            have ht : tw y = w.1 :: w1.1 :: w2.1 :: r.map (·.1) := by rw [e, hw]; rfl
            refine ⟨ht, ?_, by rw [e]; exact ⟨Int.le_refl 0, by show (0 : Int) < 100; omega⟩⟩
            rw [ht, hw]; intro u hu
            simp only [List.mem_cons, List.not_mem_nil, or_false] at hu
            rcases hu with rfl | rfl | rfl | hu <;> first | exact n1 | exact n2 | exact hr u hu | decide
          rename_i hne; clear hne
          cases hF
/-! ### Words of a line that is told -/
theorem plain_ne {c : UInt8} (h : isPlain c.toNat = true) : c.toNat ≠ 32 ∧ c.toNat ≠ 9 ∧ c.toNat ≠ 10 ∧ c.toNat ≠ 13 ∧ c.toNat ≠ 35 ∧ badB c = false := by
  simp only [isPlain, isFirst, Bool.or_eq_true, Bool.and_eq_true, decide_eq_true_eq] at h
  refine ⟨by omega, by omega, by omega, by omega, by omega, ?_⟩
  simp only [badB, Bool.and_eq_false_iff, Bool.not_eq_false', decide_eq_true_eq, Bool.or_eq_false_iff, decide_eq_false_iff_not]
  right; omega
theorem name_parts {w : List UInt8} (h : isName w = true) : w ≠ [] ∧ ∀ c ∈ w, isPlain c.toNat = true := by
  unfold isName at h
  simp only [Bool.and_eq_true, decide_eq_true_eq, List.all_eq_true] at h
  refine ⟨fun e => ?_, h.2⟩
  subst e
  simp at h
theorem tk_plain : ∀ (w r : List UInt8), (∀ c ∈ w, isPlain c.toNat = true) → (r = [] ∨ ∃ t, r = 32 :: t) → tk (w ++ r) = w
  | [], r, _, hr => by
    rcases hr with rfl | ⟨t, rfl⟩
    · rfl
    · rfl
  | c :: w, r, hw, hr => by
    have h1 := plain_ne (hw c (by simp))
    have ih := tk_plain w r (fun u hu => hw u (by simp [hu])) hr
    unfold tk at ih ⊢
    rw [List.cons_append, List.takeWhile_cons, if_pos (by simp [h1.1, h1.2.1]), ih]
theorem words_join : ∀ (ws : List (List UInt8)) (n : Nat) (p : Int), (∀ w ∈ ws, isName w = true) → (joinF [32] ws).length ≤ n → (wordsF n (joinF [32] ws) p).map (·.1) = ws
  | [], n, p, _, _ => by cases n <;> rfl
  | [w], n, p, h, hn => by
    obtain ⟨h1, h2⟩ := name_parts (h w (by simp))
    cases w with
    | nil => exact absurd rfl h1
    | cons c r =>
      have hc := plain_ne (h2 c (by simp))
      have ht := tk_plain (c :: r) [] h2 (.inl rfl)
      rw [List.append_nil] at ht
      simp only [joinF, List.length_cons] at hn ⊢
      obtain ⟨n, rfl⟩ : ∃ m, n = m + 1 := ⟨n - 1, by omega⟩
      rw [wordsF, if_neg (by omega), if_neg (by omega), ht]
      simp only [List.map_cons, List.drop_length]
      cases n <;> rfl
  | w :: w2 :: ws, n, p, h, hn => by
    obtain ⟨h1, h2⟩ := name_parts (h w (by simp))
    have ih := words_join (w2 :: ws)
    cases w with
    | nil => exact absurd rfl h1
    | cons c r =>
      have hc := plain_ne (h2 c (by simp))
      have ht := tk_plain (c :: r) (32 :: joinF [32] (w2 :: ws)) h2 (.inr ⟨_, rfl⟩)
      have ej : joinF [32] ((c :: r) :: w2 :: ws) = c :: (r ++ 32 :: joinF [32] (w2 :: ws)) := by simp [joinF]
      rw [ej] at hn ⊢
      simp only [List.length_cons, List.length_append] at hn
      obtain ⟨n, rfl⟩ : ∃ m, n = m + 1 := ⟨n - 1, by omega⟩
      rw [List.cons_append] at ht
      rw [wordsF, if_neg (by omega), if_neg (by omega), ht]
      have ed : (c :: (r ++ 32 :: joinF [32] (w2 :: ws))).drop (c :: r).length = 32 :: joinF [32] (w2 :: ws) := by
        rw [← List.cons_append]; exact List.drop_left
      rw [ed]
      obtain ⟨n, rfl⟩ : ∃ m, n = m + 1 := ⟨n - 1, by omega⟩
      rw [wordsF, if_pos (.inl rfl)]
      simp only [List.map_cons]
      rw [ih n _ (fun u hu => h u (by simp only [List.mem_cons] at hu ⊢; exact .inr hu)) (by omega)]
def okB (l : List UInt8) : Prop := ∀ c ∈ l, c.toNat = 32 ∨ isPlain c.toNat = true
theorem join_okB : ∀ (ws : List (List UInt8)), (∀ w ∈ ws, isName w = true) → okB (joinF [32] ws)
  | [], _ => by intro c hc; simp [joinF] at hc
  | [w], h => fun c hc => .inr ((name_parts (h w (by simp))).2 c hc)
  | w :: w2 :: ws, h => fun c hc => by
    simp only [joinF, List.mem_append, List.mem_cons, List.not_mem_nil, or_false] at hc
    rcases hc with (hc | rfl) | hc
    · exact .inr ((name_parts (h w (by simp))).2 c hc)
    · exact .inl rfl
    · exact join_okB (w2 :: ws) (fun u hu => h u (by simp only [List.mem_cons] at hu ⊢; exact .inr hu)) c (by simpa [joinF] using hc)
theorem okB_ne {l : List UInt8} (h : okB l) : ∀ c ∈ l, c.toNat ≠ 10 ∧ c.toNat ≠ 13 ∧ badB c = false := fun c hc => by
  rcases h c hc with e | e
  · refine ⟨by omega, by omega, ?_⟩
    simp [badB, e]
  · have := plain_ne e
    exact ⟨this.2.2.1, this.2.2.2.1, this.2.2.2.2.2⟩
theorem badAt_ok : ∀ (l : List UInt8) (k : Nat), (∀ c ∈ l, badB c = false) → badAt l k = -1
  | [], _, _ => rfl
  | c :: l, k, h => by rw [badAt, if_neg (by rw [h c (by simp)]; simp)]; exact badAt_ok l _ (fun u hu => h u (by simp [hu]))
theorem trim_ok {l : List UInt8} (h : ∀ c ∈ l, c.toNat ≠ 13) : trimEnd l [13] = l := by
  unfold trimEnd
  split
  · rename_i e
    simp only [endsIn, Bool.and_eq_true, decide_eq_true_eq] at e
    have : (13 : UInt8) ∈ l := List.mem_of_mem_drop (by rw [e.2]; simp)
    exact absurd rfl (h 13 this)
  · rfl
theorem ix_line : ∀ (l r : List UInt8), (∀ c ∈ l, c.toNat ≠ 10) → ixOf (l ++ 10 :: r) 10 = l.length
  | [], r, _ => by rw [List.nil_append, ixOf_cons]; rfl
  | c :: l, r, h => by
    have ih := ix_line l r (fun u hu => h u (by simp [hu]))
    rw [List.cons_append, ixOf_cons, if_neg (h c (by simp)), ih, if_neg (by omega)]
    simp
/-- The text of facts. -/
def txF : List FactT → List UInt8
  | [] => []
  | x :: r => toldF x ++ 10 :: txF r
theorem lines_told : ∀ (xs : List FactT) (n : Nat) (p : Int) (acc : List LineT), (∀ x ∈ xs, tw x ≠ [] ∧ ∀ w ∈ tw x, isName w = true) → (txF xs).length ≤ n →
    ∃ ls, linesG (piecesF n (txF xs)) p acc = .ok (acc ++ ls) ∧ ls.map (fun l => l.2.map (·.1)) = xs.map tw
  | [], n, p, acc, _, _ => by
    refine ⟨[], ?_, rfl⟩
    have e : piecesF n (txF []) = [[]] := by cases n <;> rfl
    rw [e]; simp [linesG]; rfl
  | x :: xs, n, p, acc, h, hn => by
    obtain ⟨h1, h2⟩ := h x (by simp)
    have ok : okB (toldF x) := by rw [toldF_tw]; exact join_okB _ h2
    have ne := okB_ne ok
    have hi := ix_line (toldF x) (txF xs) (fun c hc => (ne c hc).1)
    simp only [txF, List.length_append, List.length_cons] at hn ⊢
    obtain ⟨n, rfl⟩ : ∃ m, n = m + 1 := ⟨n - 1, by omega⟩
    have ht : trimEnd (toldF x) [13] = toldF x := trim_ok fun c hc => (ne c hc).2.1
    have hb : badAt (toldF x) 0 = -1 := badAt_ok _ _ fun c hc => (ne c hc).2.2
    rw [piecesF, hi, if_neg (by omega)]
    simp only [Int.toNat_natCast]
    rw [List.take_left, show (toldF x).length + 1 = (toldF x ++ [10]).length by simp, show toldF x ++ 10 :: txF xs = (toldF x ++ [10]) ++ txF xs by simp, List.drop_left]
    rw [linesG, ht, hb, if_neg (by omega)]
    have hw := words_join (tw x) (toldF x).length p h2 (by rw [toldF_tw]; exact Nat.le_refl _)
    rw [← toldF_tw] at hw
    generalize wordsF (toldF x).length (toldF x) p = ws at hw
    cases ws with
    | nil => rw [← hw] at h1; exact absurd rfl h1
    | cons w ws =>
      obtain ⟨ls, e1, e2⟩ := lines_told xs n (p + ((toldF x).length : Int) + 1) (acc ++ [(w.2, w :: ws)]) (fun y hy => h y (by simp [hy])) (by omega)
      refine ⟨(w.2, w :: ws) :: ls, ?_, by simp only [List.map_cons, e2, ← hw]⟩
      simp only [more1]
      rw [e1]; simp
/-! ### How long what is told is -/
def wsum : List (List UInt8) → Nat
  | [] => 0
  | w :: r => w.length + 1 + wsum r
theorem tk_drop : ∀ l : List UInt8, l.drop (tk l).length = [] ∨ ∃ b r, l.drop (tk l).length = b :: r ∧ (b.toNat = 32 ∨ b.toNat = 9)
  | [] => .inl rfl
  | c :: l => by
    by_cases hc : c.toNat = 32 ∨ c.toNat = 9
    · right
      have : tk (c :: l) = [] := by
        unfold tk
        rw [List.takeWhile_cons, if_neg (by rcases hc with e | e <;> simp [e])]
      rw [this]
      exact ⟨c, l, rfl, hc⟩
    · have : tk (c :: l) = c :: tk l := by
        unfold tk
        rw [List.takeWhile_cons, if_pos (by simp; omega)]
      rw [this]
      exact tk_drop l
theorem words_sum : ∀ (n : Nat) (s : List UInt8) (p : Int), wsum ((wordsF n s p).map (·.1)) ≤ s.length + 1 ∧ ((s = [] ∨ ∃ b r, s = b :: r ∧ (b.toNat = 32 ∨ b.toNat = 9)) → wsum ((wordsF n s p).map (·.1)) ≤ s.length)
  | 0, s, p => by simp [wordsF, wsum]
  | n + 1, [], p => by simp [wordsF, wsum]
  | n + 1, c :: r, p => by
    rw [wordsF]
    split
    · have := (words_sum n r (p + 1)).1
      exact ⟨by simp only [List.length_cons]; omega, fun _ => by simp only [List.length_cons]; omega⟩
    · rename_i hb
      split
      · simp [wsum]
      · have h2 := (words_sum n ((c :: r).drop (tk (c :: r)).length) (p + (tk (c :: r)).length)).2 (tk_drop (c :: r))
        have hl : (tk (c :: r)).length ≤ (c :: r).length := by rw [← tk_take]; exact List.length_take_le' _ _
        simp only [List.length_drop] at h2
        refine ⟨?_, ?_⟩
        · simp only [List.map_cons, wsum]
          omega
        · rintro (e | ⟨b, t, e, hb2⟩)
          · cases e
          · injection e with e1 e2; subst e1; exact absurd hb2 hb
def lsum : List LineT → Nat
  | [] => 0
  | l :: r => wsum (l.2.map (·.1)) + lsum r
theorem lsum_app : ∀ (a b : List LineT), lsum (a ++ b) = lsum a + lsum b
  | [], b => by simp [lsum]
  | x :: a, b => by simp only [List.cons_append, lsum, lsum_app a b]; omega
theorem more1_sum (acc : List LineT) (ws : List (List UInt8 × Int)) : lsum (more1 acc ws) = lsum acc + wsum (ws.map (·.1)) := by
  cases ws with
  | nil => simp [more1, wsum]
  | cons w r => simp [more1, lsum_app, lsum]
def psum : List (List UInt8) → Nat
  | [] => 0
  | w :: r => w.length + 1 + psum r
theorem pieces_sum : ∀ (n : Nat) (s : List UInt8), psum (piecesF n s) ≤ s.length + 1
  | 0, s => by simp [piecesF, psum]
  | n + 1, s => by
    rw [piecesF]
    split
    · simp [psum]
    · rename_i h
      have h1 := ixOf_lt s 10 (by omega)
      have := pieces_sum n (s.drop ((ixOf s 10).toNat + 1))
      simp only [List.length_drop] at this
      simp only [psum, List.length_take]
      omega
theorem lines_sum : ∀ (ps : List (List UInt8)) (p : Int) (acc ls : List LineT), linesG ps p acc = .ok ls → lsum ls ≤ lsum acc + psum ps
  | [], p, acc, ls, h => by simp only [linesG, Except.ok.injEq] at h; subst h; simp [psum]
  | l :: ps, p, acc, ls, h => by
    rw [linesG] at h
    split at h
    · cases h
    · have ih := lines_sum ps _ _ ls h
      have hw := (words_sum (trimEnd l [13]).length (trimEnd l [13]) p).1
      have ht := trimEnd_le l [13]
      rw [more1_sum] at ih
      simp only [psum]
      omega
theorem join_len : ∀ (ws : List (List UInt8)), ws ≠ [] → (joinF [32] ws).length + 1 = wsum ws
  | [], h => absurd rfl h
  | [w], _ => by simp [joinF, wsum]
  | w :: w2 :: ws, _ => by
    have := join_len (w2 :: ws) (by simp)
    simp only [joinF, wsum, List.length_append, List.length_cons, List.length_nil] at this ⊢
    omega
/-! ### The facts of a text -/
def f1 (l : LineT) : FactT := (factF l).1
theorem fact_ok {l : LineT} (h : (factF l).2.2 = 0) : factF l = (f1 l, 0, 0) := by
  obtain ⟨a, ps⟩ := l
  cases ps with
  | nil => simp [factF] at h
  | cons w r =>
    unfold f1
    simp only [factF] at h ⊢
    split at h
    · simp at h
    · rename_i F hF
      split at h
      · simp at h
      · rename_i hc
        rw [if_neg hc]
        split at h
        · rename_i q e he
          have h : e = 0 := h
          rcases fillF_err he with e9 | e9 <;> omega
        · rename_i y hy
          rfl
theorem go_ok : ∀ (ls : List LineT) (i : Nat) (acc : List FactT), (goF i ls acc).2.2 = 0 → (∀ l ∈ ls, (factF l).2.2 = 0) ∧ goF i ls acc = (acc ++ ls.map f1, 0, 0) ∧ (ls = [] ∨ i + ls.length ≤ 2000)
  | [], i, acc, _ => by simp [goF]
  | x :: r, i, acc, h => by
    rw [goF] at h ⊢
    split at h
    · simp at h
    · rename_i h2
      rw [if_neg h2]
      split at h
      · rename_i h3
        obtain ⟨a, b, c⟩ := go_ok r (i + 1) _ h
        rw [if_pos h3, b]
        refine ⟨fun l hl => ?_, by simp [f1], ?_⟩
        · rcases List.mem_cons.1 hl with rfl | hl
          · exact h3
          · exact a l hl
        · right
          rcases c with rfl | c
          · simp; omega
          · simp only [List.length_cons]; omega
      · exact absurd h (by assumption)
theorem go_mk : ∀ (ls : List LineT) (i : Nat) (acc : List FactT), (∀ l ∈ ls, (factF l).2.2 = 0) → (ls = [] ∨ i + ls.length ≤ 2000) → goF i ls acc = (acc ++ ls.map f1, 0, 0)
  | [], i, acc, _, _ => by simp [goF]
  | x :: r, i, acc, h, hn => by
    have hn' : i + (r.length + 1) ≤ 2000 := by
      rcases hn with e | e
      · cases e
      · simpa using e
    rw [goF, if_neg (by omega), if_pos (h x (by simp)), go_mk r (i + 1) _ (fun l hl => h l (by simp [hl])) (.inr (by omega))]
    simp [f1]
theorem sameF_at (x : FactT) (a : Int) : sameF (at1 x a) x = true := by simp [sameF, at1]
theorem eqFs_refl : ∀ xs : List FactT, eqFs xs xs = true
  | [] => rfl
  | x :: r => by simp [eqFs, eqFs_refl r, sameF]
theorem facts_same : ∀ (ls ls' : List LineT), ls'.map (fun l => l.2.map (·.1)) = ls.map (fun l => l.2.map (·.1)) → (∀ l ∈ ls, (factF l).2.2 = 0) →
    (∀ l ∈ ls', (factF l).2.2 = 0) ∧ eqFs (ls'.map f1) (ls.map f1) = true ∧ txF (ls'.map f1) = txF (ls.map f1)
  | [], [], _, _ => by simp [eqFs]
  | [], _ :: _, h, _ => by simp at h
  | _ :: _, [], h, _ => by simp at h
  | l :: ls, l' :: ls', h, hk => by
    simp only [List.map_cons, List.cons.injEq] at h
    obtain ⟨a, b, c⟩ := facts_same ls ls' h.2 (fun x hx => hk x (by simp [hx]))
    have e := fact_at (a := l.1) (a' := l'.1) (ps := l.2) (ps' := l'.2) h.1 (fact_ok (hk l (by simp)))
    have e' : factF l' = (at1 (f1 l) l'.1, 0, 0) := e
    have e1 : f1 l' = at1 (f1 l) l'.1 := by unfold f1; rw [e']; rfl
    refine ⟨fun x hx => ?_, ?_, ?_⟩
    · rcases List.mem_cons.1 hx with rfl | hx
      · rw [e']
      · exact a x hx
    · simp only [List.map_cons, eqFs, Bool.and_eq_true]
      exact ⟨by rw [e1]; exact sameF_at _ _, b⟩
    · simp only [List.map_cons, txF, c]
      rw [toldF_tw, toldF_tw, e1, tw_at]
theorem tx_len : ∀ ls : List LineT, (∀ l ∈ ls, (factF l).2.2 = 0) → (txF (ls.map f1)).length = lsum ls
  | [], _ => rfl
  | l :: ls, h => by
    have ih := tx_len ls (fun x hx => h x (by simp [hx]))
    have e := fact_tw (a := l.1) (ps := l.2) (fact_ok (h l (by simp)))
    have hne : l.2 ≠ [] := fun e0 => by
      have := h l (by simp)
      rw [show l = (l.1, l.2) from rfl, e0] at this
      simp [factF] at this
    have hj := join_len (tw (f1 l)) (by rw [e.1]; simpa using hne)
    rw [← toldF_tw, e.1] at hj
    simp only [List.map_cons, txF, List.length_append, List.length_cons, lsum, ih]
    omega
theorem cnt_le (b : Nat) : ∀ l : List UInt8, ∀ k, cntF l b k ≤ l.length + k
  | [], k => by simp [cntF]
  | c :: l, k => by
    rw [cntF]
    cases Nat.beq c.toNat b
    · have := cnt_le b l k; simp only [cond_false, List.length_cons]; omega
    · have := cnt_le b l (Nat.succ k); simp only [cond_true, List.length_cons]; omega
theorem textL_tx : ∀ (xs : List FactT) (acc : List UInt8), acc.length + (txF xs).length ≤ 200000 → textL xs acc = some (acc ++ txF xs)
  | [], acc, _ => by simp [textL, txF]
  | x :: r, acc, h => by
    simp only [txF, List.length_append, List.length_cons] at h
    rw [textL, if_neg (by omega), textL_tx r _ (by simp only [List.length_append, List.length_cons, List.length_nil]; omega)]
    simp [txF]
theorem tx_mem : ∀ (xs : List FactT) (x : FactT), x ∈ xs → (toldF x).length ≤ (txF xs).length
  | y :: r, x, h => by
    simp only [txF, List.length_append, List.length_cons]
    rcases List.mem_cons.1 h with rfl | h
    · omega
    · have := tx_mem r x h; omega
theorem wsum_len : ∀ ws : List (List UInt8), ws.length ≤ wsum ws
  | [] => Nat.le_refl _
  | w :: r => by have := wsum_len r; simp only [wsum, List.length_cons]; omega
theorem L_len (x : FactT) : (formF (kwF x.kind)).isSome = true → x.L.length ≤ (toldF x).length + 1 := by
  intro h
  obtain ⟨F, hF⟩ := Option.isSome_iff_exists.1 h
  have e : tw x = kwF x.kind :: [x.A, x.B, x.C].take F.names.toNat ++ (if F.number = true then [Lib.decDigits x.N.toNat] else []) ++ x.L := by unfold tw; rw [hF]
  have hj := join_len (tw x) (by rw [e]; simp)
  have hw := wsum_len (tw x)
  rw [toldF_tw, hj]
  have : x.L.length ≤ (tw x).length := by rw [e]; simp only [List.length_append]; omega
  omega
/-- What is told of a text's facts is read as the same, and told again it is the same text. -/
theorem text_back {s : List UInt8} (hs : s.length ≤ 4000) (h : (parseF s).2.2 = 0) : ∃ t, textF (parseF s).1 = (t, true) ∧ t.length ≤ 4001 ∧ (parseF t).2.2 = 0 ∧ textF (parseF t).1 = (t, true) ∧ eqFs (parseF t).1 (parseF s).1 = true ∧
    (parseF s).1.length ≤ 2000 ∧ (∀ x ∈ (parseF s).1, toldOk x) ∧ (∀ x ∈ (parseF t).1, toldOk x) := by
  have hl : ∃ ls, (linesOf s) = (ls, 0, 0) ∧ linesG (piecesF s.length s) 0 [] = .ok ls := by
    unfold parseF at h
    split at h
    · rename_i h0
      unfold linesOf at h0 ⊢
      split at h0
      · simp at h0
      · rename_i hb
        rw [if_neg hb]
        split at h0
        · rename_i l hl; exact ⟨l, rfl, hl⟩
        · simp at h0
    · exact absurd h (by assumption)
  obtain ⟨ls, e1, e2⟩ := hl
  have hg : (goF 0 ls []).2.2 = 0 := by
    have h' := h
    unfold parseF at h'
    rw [e1] at h'
    simpa using h'
  obtain ⟨k1, k2, k3⟩ := go_ok ls 0 [] hg
  have eA : parseF s = (ls.map f1, 0, 0) := by unfold parseF; rw [e1]; simpa using k2
  have hsum := lines_sum _ _ _ _ e2
  have hps := pieces_sum s.length s
  have hlen := tx_len ls k1
  simp only [lsum] at hsum
  have gA : ∀ x ∈ ls.map f1, tw x ≠ [] ∧ (∀ w ∈ tw x, isName w = true) ∧ (0 ≤ x.N ∧ x.N < 100) := fun x hx => by
    obtain ⟨l, hl, rfl⟩ := List.mem_map.1 hx
    have e := fact_tw (a := l.1) (ps := l.2) (fact_ok (k1 l hl))
    refine ⟨fun e0 => ?_, e.2⟩
    have hw := e.1
    rw [e0] at hw
    have hne : l.2 = [] := by simpa using hw.symm
    have := k1 l hl
    rw [show l = (l.1, l.2) from rfl, hne] at this
    simp [factF] at this
  have tOk : ∀ (ls : List LineT), (∀ l ∈ ls, (factF l).2.2 = 0) → (txF (ls.map f1)).length ≤ 4001 → ∀ x ∈ ls.map f1, toldOk x := fun ls kk hL x hx => by
    have hm := tx_mem _ _ hx
    obtain ⟨l, hl, rfl⟩ := List.mem_map.1 hx
    have e := fact_tw (a := l.1) (ps := l.2) (fact_ok (kk l hl))
    have hs : (formF (kwF (f1 l).kind)).isSome = true := by
      cases hf : formF (kwF (f1 l).kind) with
      | some F => rfl
      | none =>
        have : tw (f1 l) = [] := by unfold tw; rw [hf]
        have hw := e.1
        rw [this] at hw
        have hne : l.2 = [] := by simpa using hw.symm
        have := kk l hl
        rw [show l = (l.1, l.2) from rfl, hne] at this
        simp [factF] at this
    have := L_len _ hs
    exact ⟨e.2.2, by omega, by omega⟩
  obtain ⟨ls', m1, m2⟩ := lines_told (ls.map f1) _ 0 [] (fun x hx => ⟨(gA x hx).1, (gA x hx).2.1⟩) (Nat.le_refl _)
  have mw : ls'.map (fun l => l.2.map (·.1)) = ls.map (fun l => l.2.map (·.1)) := by
    rw [m2, List.map_map]
    apply List.map_congr_left
    intro l hl
    exact (fact_tw (a := l.1) (ps := l.2) (fact_ok (k1 l hl))).1
  obtain ⟨n1, n2, n3⟩ := facts_same ls ls' mw k1
  have hl2 : ls'.length = ls.length := by have := congrArg List.length mw; simpa using this
  have eT : linesOf (txF (ls.map f1)) = (ls', 0, 0) := by
    unfold linesOf
    have hc := cnt_le 10 (txF (ls.map f1)) 0
    rw [if_neg (by unfold cntOf; omega), m1]
    simp
  have hgo := go_mk ls' 0 [] n1 (by
    rcases k3 with e | e
    · left; rw [e] at hl2; exact List.length_eq_zero_iff.1 hl2
    · right; omega)
  have eB : parseF (txF (ls.map f1)) = (ls'.map f1, 0, 0) := by
    unfold parseF
    rw [eT]
    simpa using hgo
  have hx1 : textF (ls.map f1) = (txF (ls.map f1), true) := by
    unfold textF
    rw [textL_tx _ _ (by simp; omega)]
    simp only [List.nil_append]
    rw [eB, if_pos ⟨rfl, n2⟩]
  have hx2 : textF (ls'.map f1) = (txF (ls.map f1), true) := by
    unfold textF
    rw [textL_tx _ _ (by rw [n3]; simp; omega)]
    simp only [List.nil_append]
    rw [n3, eB, if_pos ⟨rfl, eqFs_refl _⟩]
  refine ⟨txF (ls.map f1), ?_⟩
  rw [eA, eB]
  refine ⟨hx1, by omega, rfl, hx2, n2, ?_, tOk ls k1 (by omega), tOk ls' n1 (by rw [n3]; omega)⟩
  simp only [List.length_map]
  rcases k3 with e | e
  · rw [e]; simp
  · omega
end Go.Fw.Ro
end
section
/- The document's comparisons. -/
namespace Go.Fw.Ro
open Go Go.Fw Go.Fw.Sys
set_option maxRecDepth 100000
variable {H : Mem} {K : AV → Mem → Prop}
theorem STexts_loop {v w : AV} {xs ys : List (List UInt8)} {Q : Ex → Tr → Mem → Prop} (hv : SlR 1 Rs H.get v xs) (hw : SlR 1 Rs H.get w ys) (hl : xs.length = ys.length) (hn : xs.length ≤ 1000000) : ∀ (r t : List (List UInt8)) (i : Nat) (f : Nat → AV), xs.drop i = r → ys.drop i = t → i + r.length = xs.length → f 0 = v → f 1 = w → f 5 = .i .i64 i →
    (∀ f', r ≠ t → f' 4 = .b false → Q .rt (trO 26 f') H) → (∀ f', r = t → Q (.ex 0) (trO 26 f') H) → @W S false (.loop lp_entailref1_SameTexts_0) (trO 26 f) H ⟨Q⟩ := by
  intro r
  have l1 := hv.len
  induction r with
  | nil =>
    intro t i f h1 h2 h3 f0 f1 f5 k1 k2
    simp at h3
    have : t = [] := by rw [← h2]; exact List.drop_eq_nil_of_le (by omega)
    rw [w_loop]
    unfold lp_entailref1_SameTexts_0
    simp (disch := first | omega | (simp only [List.length_cons, List.length_nil, true_and, and_true, nx_push, nx_put, nx_mark]; try omega)) only [go_sem, ↓reduceIte, Nat.reduceAdd, Nat.reduceMul, Nat.reduceSub, Int.reduceToNat, UInt8.reduceToNat, Nat.reduceLeDiff, Nat.reduceEqDiff, Nat.sub_zero, Int.add_zero, Int.zero_add, Nat.add_zero, Nat.zero_add, Nat.zero_mul, f0, f1, f5, l1]
    exact atQ 26 rfl (k2 _ this.symm)
  | cons x r ih =>
    intro t i f h1 h2 h3 f0 f1 f5 k1 k2
    simp at h3
    cases t with
    | nil => have := congrArg List.length h2; simp at this; omega
    | cons y t =>
      have hx : xs[i]? = some x := by rw [← List.head?_drop, h1]; rfl
      have hy : ys[i]? = some y := by rw [← List.head?_drop, h2]; rfl
      have hr1 : xs.drop (i + 1) = r := by rw [← List.drop_drop, h1]; rfl
      have ht1 : ys.drop (i + 1) = t := by rw [← List.drop_drop, h2]; rfl
      obtain ⟨id, p, c, y1, y2, y3, y4, y5, y6⟩ := hv.at_ hx
      obtain ⟨jd, q, d, z1, z2, z3, z4, z5, z6⟩ := hw.at_ hy
      simp only [Rs] at y2 z2
      subst y2 z2
      have y7 : ldO (H.get id) false 1 p = some (.s x) := y3 0 (by omega)
      have z7 : ldO (H.get jd) false 1 q = some (.s y) := z3 0 (by omega)
      rw [w_loop]
      unfold lp_entailref1_SameTexts_0
      simp (disch := first | omega | (simp only [List.length_cons, List.length_nil, true_and, and_true, nx_push, nx_put, nx_mark]; try omega)) only [go_sem, ↓reduceIte, Nat.reduceAdd, Nat.reduceMul, Nat.reduceSub, Int.reduceToNat, UInt8.reduceToNat, Nat.reduceLeDiff, Nat.reduceEqDiff, Nat.sub_zero, Int.add_zero, Int.zero_add, Nat.add_zero, Nat.zero_add, Nat.zero_mul, f0, f1, f5, l1]
      refine w_dregA rfl rfl ?_
      simp (disch := first | omega | (simp only [List.length_cons, List.length_nil, true_and, and_true, nx_push, nx_put, nx_mark]; try omega)) only [go_sem, ↓reduceIte, Nat.reduceAdd, Nat.reduceMul, Nat.reduceSub, Int.reduceToNat, UInt8.reduceToNat, Nat.reduceLeDiff, Nat.reduceEqDiff, Nat.sub_zero, Int.add_zero, Int.zero_add, Nat.add_zero, Nat.zero_add, Nat.zero_mul, f0, f1, f5, y1, y7, z1, z7]
      refine cnd_dec (fun hne => ?_) (fun he => ?_)
      · simp (disch := first | omega | (simp only [List.length_cons, List.length_nil, true_and, and_true, nx_push, nx_put, nx_mark]; try omega)) only [go_sem, ↓reduceIte, Nat.reduceAdd, Nat.reduceMul, Nat.reduceSub, Int.reduceToNat, UInt8.reduceToNat, Nat.reduceLeDiff, Nat.reduceEqDiff, Nat.sub_zero, Int.add_zero, Int.zero_add, Nat.add_zero, Nat.zero_add, Nat.zero_mul]
        exact atQ 26 rfl (k1 _ (fun e => hne (List.cons.inj e).1) rfl)
      · simp (disch := first | omega | (simp only [List.length_cons, List.length_nil, true_and, and_true, nx_push, nx_put, nx_mark]; try omega)) only [go_sem, ↓reduceIte, Nat.reduceAdd, Nat.reduceMul, Nat.reduceSub, Int.reduceToNat, UInt8.reduceToNat, Nat.reduceLeDiff, Nat.reduceEqDiff, Nat.sub_zero, Int.add_zero, Int.zero_add, Nat.add_zero, Nat.zero_add, Nat.zero_mul]
        have he : x = y := Decidable.byContradiction he
        refine atW 26 rfl (ih t (i + 1) _ hr1 ht1 (by omega) rfl rfl rfl (fun f' a b => k1 f' (fun e => a (List.cons.inj e).2) b) (fun f' a => k2 f' (by rw [he, a])))
theorem STexts_run {v w : AV} {xs ys : List (List UInt8)} (hv : SlR 1 Rs H.get v xs) (hw : SlR 1 Rs H.get w ys) (hn : xs.length ≤ 1000000) (h : K (.b (decide (xs = ys))) H) : @R S (.f n_entailref1_SameTexts) [v, w] H ⟨K⟩ := by
  refine run_fn2 rfl rfl ?_
  unfold bd_entailref1_SameTexts
  have l1 := hv.len
  have l2 := hw.len
  simp (disch := first | omega | (simp only [List.length_cons, List.length_nil, true_and, and_true, nx_push, nx_put, nx_mark]; try omega)) only [go_sem, ↓reduceIte, Nat.reduceAdd, Nat.reduceMul, Nat.reduceSub, Int.reduceToNat, UInt8.reduceToNat, Nat.reduceLeDiff, Nat.reduceEqDiff, Nat.sub_zero, Int.add_zero, Int.zero_add, Nat.add_zero, Nat.zero_add, Nat.zero_mul, l1, l2]
  by_cases hl : xs.length = ys.length
  · have hl' : (xs.length : Int) = ys.length := by omega
    simp (disch := first | omega | (simp only [List.length_cons, List.length_nil, true_and, and_true, nx_push, nx_put, nx_mark]; try omega)) only [go_sem, ↓reduceIte, Nat.reduceAdd, Nat.reduceMul, Nat.reduceSub, Int.reduceToNat, UInt8.reduceToNat, Nat.reduceLeDiff, Nat.reduceEqDiff, Nat.sub_zero, Int.add_zero, Int.zero_add, Nat.add_zero, Nat.zero_add, Nat.zero_mul, l1, l2]
    refine atW 26 rfl (STexts_loop (H := H.mark []) hv hw hl hn xs ys 0 _ rfl rfl (by omega) rfl rfl rfl (fun f' a b => ?_) (fun f' a => ?_))
    · simp (disch := first | omega | (simp only [List.length_cons, List.length_nil, true_and, and_true, nx_push, nx_put, nx_mark]; try omega)) only [go_sem, ↓reduceIte, Nat.reduceAdd, Nat.reduceMul, Nat.reduceSub, Int.reduceToNat, UInt8.reduceToNat, Nat.reduceLeDiff, Nat.reduceEqDiff, Nat.sub_zero, Int.add_zero, Int.zero_add, Nat.add_zero, Nat.zero_add, Nat.zero_mul, b]
      exact kb (by simp [a]) h
    · simp (disch := first | omega | (simp only [List.length_cons, List.length_nil, true_and, and_true, nx_push, nx_put, nx_mark]; try omega)) only [go_sem, ↓reduceIte, Nat.reduceAdd, Nat.reduceMul, Nat.reduceSub, Int.reduceToNat, UInt8.reduceToNat, Nat.reduceLeDiff, Nat.reduceEqDiff, Nat.sub_zero, Int.add_zero, Int.zero_add, Nat.add_zero, Nat.zero_add, Nat.zero_mul]
      exact kb (by simp [a]) h
  · have ne : xs ≠ ys := fun e => hl (by rw [e])
    simp (disch := first | omega | (simp only [List.length_cons, List.length_nil, true_and, and_true, nx_push, nx_put, nx_mark]; try omega)) only [go_sem, ↓reduceIte, Nat.reduceAdd, Nat.reduceMul, Nat.reduceSub, Int.reduceToNat, UInt8.reduceToNat, Nat.reduceLeDiff, Nat.reduceEqDiff, Nat.sub_zero, Int.add_zero, Int.zero_add, Nat.add_zero, Nat.zero_add, Nat.zero_mul, l1, l2]
    exact kb (by simp [ne]) h
theorem SFacts_loop {v w : AV} {xs ys : List FactT} {H0 : Mem} {Q : Ex → Tr → Mem → Prop} (w0 : Wf H0) (hv : SlR 7 Rfact H0.get v xs) (hw : SlR 7 Rfact H0.get w ys) (hl : xs.length = ys.length) (hn : xs.length ≤ 1000000) (hL : ∀ x ∈ xs, x.L.length ≤ 1000000) : ∀ (r t : List FactT) (i : Nat) (f : Nat → AV) (H : Mem), xs.drop i = r → ys.drop i = t → i + r.length = xs.length → Ext H0.next H0 H → f 0 = v → f 1 = w → f 5 = .i .i64 i →
    (∀ f' H', eqFs r t = false → f' 4 = .b false → Ext H0.next H0 H' → Q .rt (trO 68 f') H') → (∀ f' H', eqFs r t = true → Ext H0.next H0 H' → Q (.ex 0) (trO 68 f') H') → @W S false (.loop lp_entailref13_SameFacts_0) (trO 68 f) H ⟨Q⟩ := by
  intro r
  have l1 := hv.len
  induction r with
  | nil =>
    intro t i f H h1 h2 h3 hx f0 f1 f5 k1 k2
    simp at h3
    have : t = [] := by rw [← h2]; exact List.drop_eq_nil_of_le (by omega)
    rw [w_loop]
    unfold lp_entailref13_SameFacts_0
    simp (disch := first | omega | (simp only [List.length_cons, List.length_nil, true_and, and_true, nx_push, nx_put, nx_mark]; try omega)) only [go_sem, ↓reduceIte, Nat.reduceAdd, Nat.reduceMul, Nat.reduceSub, Int.reduceToNat, UInt8.reduceToNat, Nat.reduceLeDiff, Nat.reduceEqDiff, Nat.sub_zero, Int.add_zero, Int.zero_add, Nat.add_zero, Nat.zero_add, Nat.zero_mul, f0, f1, f5, l1]
    exact atQ 68 rfl (k2 _ H (by rw [this]; rfl) hx)
  | cons x r ih =>
    intro t i f H h1 h2 h3 hE f0 f1 f5 k1 k2
    simp at h3
    cases t with
    | nil => have := congrArg List.length h2; simp at this; omega
    | cons y t =>
      have hx : xs[i]? = some x := by rw [← List.head?_drop, h1]; rfl
      have hy : ys[i]? = some y := by rw [← List.head?_drop, h2]; rfl
      have hr1 : xs.drop (i + 1) = r := by rw [← List.drop_drop, h1]; rfl
      have ht1 : ys.drop (i + 1) = t := by rw [← List.drop_drop, h2]; rfl
      have hlx := hL x (List.mem_of_getElem? hx)
      obtain ⟨id, p, c, y1, y2, y3, y4, y5, y6⟩ := (hv.mono Rfact_mono (le_up hE w0 (Nat.le_refl _))).at_ hx
      obtain ⟨jd, q, d, z1, z2, z3, z4, z5, z6⟩ := (hw.mono Rfact_mono (le_up hE w0 (Nat.le_refl _))).at_ hy
      obtain ⟨g, rfl, gr⟩ := y2
      obtain ⟨g', rfl, gr'⟩ := z2
      have hid := hE.wf id y6
      have hjd := hE.wf jd z6
      have g1 := gr.one
      have g2 := gr'.one
      have n0 := hE.next
      have hm2 : Ext H.next H (more H 2) := ⟨by simp only [nx_more]; omega, rfl, fun _ _ => rfl, hE.wf.more⟩
      have hx1 : ∀ o1 o2 o3 o4, Ext H.next H (((((more H 2).put H.next o1).put (H.next + 1) o2).put H.next o3).put (H.next + 1) o4) := fun _ _ _ _ => ((((hm2.put (Nat.le_refl _) (by simp only [nx_more]; omega) _).put (by first | omega | (simp only [nx_push, nx_put, nx_mark]; try omega)) (by simp only [nx_more, nx_put]; omega) _).put (by first | omega | (simp only [nx_push, nx_put, nx_mark]; try omega)) (by simp only [nx_more, nx_put]; omega) _).put (by first | omega | (simp only [nx_push, nx_put, nx_mark]; try omega)) (by simp only [nx_more, nx_put]; omega) _)
      rw [w_loop]
      unfold lp_entailref13_SameFacts_0
      simp only [factC] at y4 z4
      simp (disch := first | omega | (simp only [List.length_cons, List.length_nil, true_and, and_true, nx_push, nx_put, nx_mark]; try omega)) only [go_sem, ↓reduceIte, Nat.reduceAdd, Nat.reduceMul, Nat.reduceSub, Int.reduceToNat, UInt8.reduceToNat, Nat.reduceLeDiff, Nat.reduceEqDiff, Nat.sub_zero, Int.add_zero, Int.zero_add, Nat.add_zero, Nat.zero_add, Nat.zero_mul, f0, f1, f5, l1]
      refine w_dregB [10, 11] 2 rfl rfl rfl rfl ?_
      simp (disch := first | omega | (simp only [List.length_cons, List.length_nil, true_and, and_true, nx_push, nx_put, nx_mark]; try omega)) only [go_sem, ↓reduceIte, Nat.reduceAdd, Nat.reduceMul, Nat.reduceSub, Int.reduceToNat, UInt8.reduceToNat, Nat.reduceLeDiff, Nat.reduceEqDiff, Nat.sub_zero, Int.add_zero, Int.zero_add, Nat.add_zero, Nat.zero_add, Nat.zero_mul, f0, f1, f5, y1, y4, z1, z4, g1, g2]
      have d1 : H.get H.next = .dead := hE.wf.far (Nat.le_refl _)
      have d2 : H.get (H.next + 1) = .dead := hE.wf.far (by omega)
      refine ⟨by rw [d1, d2]; rfl, ?_⟩
      have ne : sameF x y = false → eqFs (x :: r) (y :: t) = false := fun e => by simp only [eqFs, e]; rfl
      by_cases h1 : x.kind = y.kind
      · by_cases h2 : x.A = y.A
        · by_cases h3 : x.B = y.B
          · by_cases h4 : x.C = y.C
            · by_cases h5 : x.N = y.N
              · simp (disch := first | omega | (simp only [List.length_cons, List.length_nil, true_and, and_true, nx_push, nx_put, nx_mark]; try omega)) only [go_sem, ↓reduceIte, Nat.reduceAdd, Nat.reduceMul, Nat.reduceSub, Int.reduceToNat, UInt8.reduceToNat, Nat.reduceLeDiff, Nat.reduceEqDiff, Nat.sub_zero, Int.add_zero, Int.zero_add, Nat.add_zero, Nat.zero_add, Nat.zero_mul, h1, h2, h3, h4, h5]
                have gx := hx1 (AO.mem [AV.i IntKind.i64 0, AV.s [], AV.s [], AV.s [], AV.i IntKind.i64 0, AV.nsl, AV.i IntKind.i64 0] 0 ty_api_Fact true 0) (AO.mem [AV.i IntKind.i64 0, AV.s [], AV.s [], AV.s [], AV.i IntKind.i64 0, AV.nsl, AV.i IntKind.i64 0] 0 ty_api_Fact true 0) (AO.mem [AV.i IntKind.i64 y.kind, AV.s y.A, AV.s y.B, AV.s y.C, AV.i IntKind.i64 y.N, g, AV.i IntKind.i64 x.at_] 0 ty_api_Fact true 0) (AO.mem [AV.i IntKind.i64 y.kind, AV.s y.A, AV.s y.B, AV.s y.C, AV.i IntKind.i64 y.N, g', AV.i IntKind.i64 y.at_] 0 ty_api_Fact true 0)
                refine STexts_run (gr.mono Rs_mono (le_up gx hE.wf (Nat.le_refl _))) (gr'.mono Rs_mono (le_up gx hE.wf (Nat.le_refl _))) hlx ?_
                by_cases h6 : x.L = y.L
                · simp (disch := first | omega | (simp only [List.length_cons, List.length_nil, true_and, and_true, nx_push, nx_put, nx_mark]; try omega)) only [go_sem, ↓reduceIte, Nat.reduceAdd, Nat.reduceMul, Nat.reduceSub, Int.reduceToNat, UInt8.reduceToNat, Nat.reduceLeDiff, Nat.reduceEqDiff, Nat.sub_zero, Int.add_zero, Int.zero_add, Nat.add_zero, Nat.zero_add, Nat.zero_mul, h6]
                  have e : eqFs (x :: r) (y :: t) = eqFs r t := by simp [eqFs, sameF, h1, h2, h3, h4, h5, h6]
                  rw [e] at k1 k2
                  refine atW 68 rfl (ih t (i + 1) _ _ hr1 ht1 (by omega) (hE.trans gx n0) rfl rfl rfl k1 k2)
                · simp (disch := first | omega | (simp only [List.length_cons, List.length_nil, true_and, and_true, nx_push, nx_put, nx_mark]; try omega)) only [go_sem, ↓reduceIte, Nat.reduceAdd, Nat.reduceMul, Nat.reduceSub, Int.reduceToNat, UInt8.reduceToNat, Nat.reduceLeDiff, Nat.reduceEqDiff, Nat.sub_zero, Int.add_zero, Int.zero_add, Nat.add_zero, Nat.zero_add, Nat.zero_mul, h6]
                  exact atQ 68 rfl (k1 _ _ (ne (by simp [sameF, h6])) rfl (hE.trans gx n0))
              · simp (disch := first | omega | (simp only [List.length_cons, List.length_nil, true_and, and_true, nx_push, nx_put, nx_mark]; try omega)) only [go_sem, ↓reduceIte, Nat.reduceAdd, Nat.reduceMul, Nat.reduceSub, Int.reduceToNat, UInt8.reduceToNat, Nat.reduceLeDiff, Nat.reduceEqDiff, Nat.sub_zero, Int.add_zero, Int.zero_add, Nat.add_zero, Nat.zero_add, Nat.zero_mul, h1, h2, h3, h4, h5]
                exact atQ 68 rfl (k1 _ _ (ne (by simp [sameF, h5])) rfl (hE.trans (hx1 _ _ _ _) n0))
            · simp (disch := first | omega | (simp only [List.length_cons, List.length_nil, true_and, and_true, nx_push, nx_put, nx_mark]; try omega)) only [go_sem, ↓reduceIte, Nat.reduceAdd, Nat.reduceMul, Nat.reduceSub, Int.reduceToNat, UInt8.reduceToNat, Nat.reduceLeDiff, Nat.reduceEqDiff, Nat.sub_zero, Int.add_zero, Int.zero_add, Nat.add_zero, Nat.zero_add, Nat.zero_mul, h1, h2, h3, h4]
              exact atQ 68 rfl (k1 _ _ (ne (by simp [sameF, h4])) rfl (hE.trans (hx1 _ _ _ _) n0))
          · simp (disch := first | omega | (simp only [List.length_cons, List.length_nil, true_and, and_true, nx_push, nx_put, nx_mark]; try omega)) only [go_sem, ↓reduceIte, Nat.reduceAdd, Nat.reduceMul, Nat.reduceSub, Int.reduceToNat, UInt8.reduceToNat, Nat.reduceLeDiff, Nat.reduceEqDiff, Nat.sub_zero, Int.add_zero, Int.zero_add, Nat.add_zero, Nat.zero_add, Nat.zero_mul, h1, h2, h3]
            exact atQ 68 rfl (k1 _ _ (ne (by simp [sameF, h3])) rfl (hE.trans (hx1 _ _ _ _) n0))
        · simp (disch := first | omega | (simp only [List.length_cons, List.length_nil, true_and, and_true, nx_push, nx_put, nx_mark]; try omega)) only [go_sem, ↓reduceIte, Nat.reduceAdd, Nat.reduceMul, Nat.reduceSub, Int.reduceToNat, UInt8.reduceToNat, Nat.reduceLeDiff, Nat.reduceEqDiff, Nat.sub_zero, Int.add_zero, Int.zero_add, Nat.add_zero, Nat.zero_add, Nat.zero_mul, h1, h2]
          exact atQ 68 rfl (k1 _ _ (ne (by simp [sameF, h2])) rfl (hE.trans (hx1 _ _ _ _) n0))
      · simp (disch := first | omega | (simp only [List.length_cons, List.length_nil, true_and, and_true, nx_push, nx_put, nx_mark]; try omega)) only [go_sem, ↓reduceIte, Nat.reduceAdd, Nat.reduceMul, Nat.reduceSub, Int.reduceToNat, UInt8.reduceToNat, Nat.reduceLeDiff, Nat.reduceEqDiff, Nat.sub_zero, Int.add_zero, Int.zero_add, Nat.add_zero, Nat.zero_add, Nat.zero_mul, h1]
        exact atQ 68 rfl (k1 _ _ (ne (by simp [sameF, h1])) rfl (hE.trans (hx1 _ _ _ _) n0))
theorem SFacts_run {v w : AV} {xs ys : List FactT} (hv : SlR 7 Rfact H.get v xs) (hy : SlR 7 Rfact H.get w ys) (hw : Wf H) (hn : xs.length ≤ 1000000) (hL : ∀ x ∈ xs, x.L.length ≤ 1000000) (h : ∀ H', Ext H.next H H' → K (.b (eqFs xs ys)) H') : @R S (.f n_entailref13_SameFacts) [v, w] H ⟨K⟩ := by
  refine run_fn2 rfl rfl ?_
  unfold bd_entailref13_SameFacts
  have l1 := hv.len
  have l2 := hy.len
  simp (disch := first | omega | (simp only [List.length_cons, List.length_nil, true_and, and_true, nx_push, nx_put, nx_mark]; try omega)) only [go_sem, ↓reduceIte, Nat.reduceAdd, Nat.reduceMul, Nat.reduceSub, Int.reduceToNat, UInt8.reduceToNat, Nat.reduceLeDiff, Nat.reduceEqDiff, Nat.sub_zero, Int.add_zero, Int.zero_add, Nat.add_zero, Nat.zero_add, Nat.zero_mul, l1, l2]
  by_cases hl : xs.length = ys.length
  · have hl' : (xs.length : Int) = ys.length := by omega
    simp (disch := first | omega | (simp only [List.length_cons, List.length_nil, true_and, and_true, nx_push, nx_put, nx_mark]; try omega)) only [go_sem, ↓reduceIte, Nat.reduceAdd, Nat.reduceMul, Nat.reduceSub, Int.reduceToNat, UInt8.reduceToNat, Nat.reduceLeDiff, Nat.reduceEqDiff, Nat.sub_zero, Int.add_zero, Int.zero_add, Nat.add_zero, Nat.zero_add, Nat.zero_mul, hl']
    refine atW 68 rfl (SFacts_loop (H0 := H.mark []) hw hv hy hl hn hL xs ys 0 _ (H.mark []) rfl rfl (by omega) (Ext.refl (H := H.mark []) hw) rfl rfl rfl (fun f' H' a b c => ?_) (fun f' H' a c => ?_))
    · have hm : H'.marks = [] := c.marks
      rw [a] at h
      simp (disch := first | omega | (simp only [List.length_cons, List.length_nil, true_and, and_true, nx_push, nx_put, nx_mark]; try omega)) only [go_sem, ↓reduceIte, Nat.reduceAdd, Nat.reduceMul, Nat.reduceSub, Int.reduceToNat, UInt8.reduceToNat, Nat.reduceLeDiff, Nat.reduceEqDiff, Nat.sub_zero, Int.add_zero, Int.zero_add, Nat.add_zero, Nat.zero_add, Nat.zero_mul, b, hm]
      exact h _ (Ext.mark c)
    · have hm : H'.marks = [] := c.marks
      rw [a] at h
      simp (disch := first | omega | (simp only [List.length_cons, List.length_nil, true_and, and_true, nx_push, nx_put, nx_mark]; try omega)) only [go_sem, ↓reduceIte, Nat.reduceAdd, Nat.reduceMul, Nat.reduceSub, Int.reduceToNat, UInt8.reduceToNat, Nat.reduceLeDiff, Nat.reduceEqDiff, Nat.sub_zero, Int.add_zero, Int.zero_add, Nat.add_zero, Nat.zero_add, Nat.zero_mul, hm]
      exact h _ (Ext.mark c)
  · have hl' : ¬ ((xs.length : Int) = ys.length) := by omega
    have e : eqFs xs ys = false := by
      cases he : eqFs xs ys with
      | false => rfl
      | true => exact absurd (eqFs_len he) hl
    rw [e] at h
    simp (disch := first | omega | (simp only [List.length_cons, List.length_nil, true_and, and_true, nx_push, nx_put, nx_mark]; try omega)) only [go_sem, ↓reduceIte, Nat.reduceAdd, Nat.reduceMul, Nat.reduceSub, Int.reduceToNat, UInt8.reduceToNat, Nat.reduceLeDiff, Nat.reduceEqDiff, Nat.sub_zero, Int.add_zero, Int.zero_add, Nat.add_zero, Nat.zero_add, Nat.zero_mul, hl']
    exact h _ (Ext.refl hw)
end Go.Fw.Ro
end
section
/- The document's Name; the verifier's texts. -/
namespace Go.Fw.Ro
open Go Go.Fw Go.Fw.Sys
set_option maxRecDepth 100000
variable {H : Mem} {K : AV → Mem → Prop}
@[go_sem] theorem alnum_run {c : Int} : @R S (.f n_entailref1_alnum) [.i .u8 c] H ⟨K⟩ ↔ K (.b (isFirst c)) H := by
  refine run_iff fun K h => ?_
  refine run_fn2 rfl rfl ?_
  unfold bd_entailref1_alnum
  repeat' (first | (simp (disch := first | omega | (simp only [List.length_cons, List.length_nil, true_and, and_true, nx_push, nx_put, nx_mark]; try omega)) only [go_sem, ↓reduceIte, Nat.reduceAdd, Nat.reduceMul, Nat.reduceSub, Int.reduceToNat, UInt8.reduceToNat, Nat.reduceLeDiff, Nat.reduceEqDiff, Nat.sub_zero, Int.add_zero, Int.zero_add, Nat.add_zero, Nat.zero_add, Nat.zero_mul, *]) | with_reducible refine grd_dec (fun _ => ?_) (fun _ => ?_) | with_reducible refine cnd_dec (fun _ => ?_) (fun _ => ?_) | with_reducible refine grd_bool (fun _ => ?_) (fun _ => ?_) | with_reducible refine cnd_bool (fun _ => ?_) (fun _ => ?_))
  all_goals refine kb ?_ h
  all_goals first | (simp [isFirst, *]; done) | (simp [isFirst, *]; omega)
theorem plain_of {c : Int} (h1 : isFirst c = false) (h2 : c ≠ 95) (h3 : c ≠ 45) (h4 : c ≠ 46) : isPlain c = false := by simp [isPlain, h1, h2, h3, h4]
theorem RName_loop {s : List UInt8} {Q : Ex → Tr → Mem → Prop} : ∀ (r : List UInt8) (i : Nat) (f : Nat → AV), i + r.length = s.length → s.drop i = r → s.length ≤ 30 → f 0 = .s s → f 3 = .i .i64 i →
    (∀ f', f' 2 = .b false → r.all (fun c => isPlain c.toNat) = false → Q .rt (trO 47 f') H) → (∀ f', r.all (fun c => isPlain c.toNat) = true → Q (.ex 0) (trO 47 f') H) → @W S false (.loop lp_entailref1_Name_0) (trO 47 f) H ⟨Q⟩ := by
  intro r
  induction r with
  | nil =>
    intro i f h1 h2 h3 e0 e3 k1 k2
    rw [w_loop]
    unfold lp_entailref1_Name_0
    simp at h1
    simp (disch := first | omega | (simp only [List.length_cons, List.length_nil, true_and, and_true, nx_push, nx_put, nx_mark]; try omega)) only [go_sem, ↓reduceIte, Nat.reduceAdd, Nat.reduceMul, Nat.reduceSub, Int.reduceToNat, UInt8.reduceToNat, Nat.reduceLeDiff, Nat.reduceEqDiff, Nat.sub_zero, Int.add_zero, Int.zero_add, Nat.add_zero, Nat.zero_add, Nat.zero_mul, e0, e3, h1]
    exact atQ 47 rfl (k2 _ rfl)
  | cons c r ih =>
    intro i f h1 h2 h3 e0 e3 k1 k2
    rw [w_loop]
    unfold lp_entailref1_Name_0
    simp (disch := first | omega | (simp only [List.length_cons, List.length_nil, true_and, and_true, nx_push, nx_put, nx_mark]; try omega)) only [go_sem, ↓reduceIte, Nat.reduceAdd, Nat.reduceMul, Nat.reduceSub, Int.reduceToNat, UInt8.reduceToNat, Nat.reduceLeDiff, Nat.reduceEqDiff, Nat.sub_zero, Int.add_zero, Int.zero_add, Nat.add_zero, Nat.zero_add, Nat.zero_mul, e0, e3]
    simp at h1
    have hc : s[i]? = some c := by rw [← List.head?_drop, h2]; rfl
    simp (disch := first | omega | (simp only [List.length_cons, List.length_nil, true_and, and_true, nx_push, nx_put, nx_mark]; try omega)) only [go_sem, ↓reduceIte, Nat.reduceAdd, Nat.reduceMul, Nat.reduceSub, Int.reduceToNat, UInt8.reduceToNat, Nat.reduceLeDiff, Nat.reduceEqDiff, Nat.sub_zero, Int.add_zero, Int.zero_add, Nat.add_zero, Nat.zero_add, Nat.zero_mul, e0, e3, hc]
    have go : ∀ (b : Bool), isPlain c.toNat = b → (isPlain c.toNat = b) := fun _ h => h
    cases hp : isFirst c.toNat with
    | true =>
      have hq : isPlain c.toNat = true := by simp [isPlain, hp]
      simp (disch := first | omega | (simp only [List.length_cons, List.length_nil, true_and, and_true, nx_push, nx_put, nx_mark]; try omega)) only [go_sem, ↓reduceIte, Nat.reduceAdd, Nat.reduceMul, Nat.reduceSub, Int.reduceToNat, UInt8.reduceToNat, Nat.reduceLeDiff, Nat.reduceEqDiff, Nat.sub_zero, Int.add_zero, Int.zero_add, Nat.add_zero, Nat.zero_add, Nat.zero_mul]
      refine atW 47 rfl (ih (i + 1) _ (by omega) (by rw [← List.drop_drop, h2]; rfl) h3 rfl rfl (fun f' a b => k1 f' a ?_) (fun f' a => k2 f' ?_))
      · rw [List.all_cons, hq]; exact b
      · rw [List.all_cons, hq]; exact a
    | false =>
      by_cases n1 : (c.toNat : Int) = 95
      · have hq : isPlain c.toNat = true := by simp [isPlain, n1]
        simp (disch := first | omega | (simp only [List.length_cons, List.length_nil, true_and, and_true, nx_push, nx_put, nx_mark]; try omega)) only [go_sem, ↓reduceIte, Nat.reduceAdd, Nat.reduceMul, Nat.reduceSub, Int.reduceToNat, UInt8.reduceToNat, Nat.reduceLeDiff, Nat.reduceEqDiff, Nat.sub_zero, Int.add_zero, Int.zero_add, Nat.add_zero, Nat.zero_add, Nat.zero_mul, n1, hc]
        refine atW 47 rfl (ih (i + 1) _ (by omega) (by rw [← List.drop_drop, h2]; rfl) h3 rfl rfl (fun f' a b => k1 f' a ?_) (fun f' a => k2 f' ?_))
        · rw [List.all_cons, hq]; exact b
        · rw [List.all_cons, hq]; exact a
      · by_cases n2 : (c.toNat : Int) = 45
        · have hq : isPlain c.toNat = true := by simp [isPlain, n2]
          simp (disch := first | omega | (simp only [List.length_cons, List.length_nil, true_and, and_true, nx_push, nx_put, nx_mark]; try omega)) only [go_sem, ↓reduceIte, Nat.reduceAdd, Nat.reduceMul, Nat.reduceSub, Int.reduceToNat, UInt8.reduceToNat, Nat.reduceLeDiff, Nat.reduceEqDiff, Nat.sub_zero, Int.add_zero, Int.zero_add, Nat.add_zero, Nat.zero_add, Nat.zero_mul, n1, n2, hc]
          refine atW 47 rfl (ih (i + 1) _ (by omega) (by rw [← List.drop_drop, h2]; rfl) h3 rfl rfl (fun f' a b => k1 f' a ?_) (fun f' a => k2 f' ?_))
          · rw [List.all_cons, hq]; exact b
          · rw [List.all_cons, hq]; exact a
        · by_cases n3 : (c.toNat : Int) = 46
          · have hq : isPlain c.toNat = true := by simp [isPlain, n3]
            simp (disch := first | omega | (simp only [List.length_cons, List.length_nil, true_and, and_true, nx_push, nx_put, nx_mark]; try omega)) only [go_sem, ↓reduceIte, Nat.reduceAdd, Nat.reduceMul, Nat.reduceSub, Int.reduceToNat, UInt8.reduceToNat, Nat.reduceLeDiff, Nat.reduceEqDiff, Nat.sub_zero, Int.add_zero, Int.zero_add, Nat.add_zero, Nat.zero_add, Nat.zero_mul, n1, n2, n3, hc]
            refine atW 47 rfl (ih (i + 1) _ (by omega) (by rw [← List.drop_drop, h2]; rfl) h3 rfl rfl (fun f' a b => k1 f' a ?_) (fun f' a => k2 f' ?_))
            · rw [List.all_cons, hq]; exact b
            · rw [List.all_cons, hq]; exact a
          · simp (disch := first | omega | (simp only [List.length_cons, List.length_nil, true_and, and_true, nx_push, nx_put, nx_mark]; try omega)) only [go_sem, ↓reduceIte, Nat.reduceAdd, Nat.reduceMul, Nat.reduceSub, Int.reduceToNat, UInt8.reduceToNat, Nat.reduceLeDiff, Nat.reduceEqDiff, Nat.sub_zero, Int.add_zero, Int.zero_add, Nat.add_zero, Nat.zero_add, Nat.zero_mul, n1, n2, n3, hc]
            exact atQ 47 rfl (k1 _ rfl (by rw [List.all_cons, plain_of hp n1 n2 n3]; rfl))
@[go_sem] theorem RName_run {s : List UInt8} (hs : s.length ≤ 1000000) : @R S (.f n_entailref1_Name) [.s s] H ⟨K⟩ ↔ K (.b (isName s)) H := by
  refine run_iff fun K h => ?_
  refine run_fn2 rfl rfl ?_
  unfold bd_entailref1_Name
  cases s with
  | nil => simp (disch := first | omega | (simp only [List.length_cons, List.length_nil, true_and, and_true, nx_push, nx_put, nx_mark]; try omega)) only [go_sem, ↓reduceIte, Nat.reduceAdd, Nat.reduceMul, Nat.reduceSub, Int.reduceToNat, UInt8.reduceToNat, Nat.reduceLeDiff, Nat.reduceEqDiff, Nat.sub_zero, Int.add_zero, Int.zero_add, Nat.add_zero, Nat.zero_add, Nat.zero_mul]; exact kb (by simp [isName]) h
  | cons c r =>
    simp (disch := first | omega | (simp only [List.length_cons, List.length_nil, true_and, and_true, nx_push, nx_put, nx_mark]; try omega)) only [go_sem, ↓reduceIte, Nat.reduceAdd, Nat.reduceMul, Nat.reduceSub, Int.reduceToNat, UInt8.reduceToNat, Nat.reduceLeDiff, Nat.reduceEqDiff, Nat.sub_zero, Int.add_zero, Int.zero_add, Nat.add_zero, Nat.zero_add, Nat.zero_mul]
    refine grd_dec (fun h2 => ?_) (fun h2 => ?_)
    · simp (disch := first | omega | (simp only [List.length_cons, List.length_nil, true_and, and_true, nx_push, nx_put, nx_mark]; try omega)) only [go_sem, ↓reduceIte, Nat.reduceAdd, Nat.reduceMul, Nat.reduceSub, Int.reduceToNat, UInt8.reduceToNat, Nat.reduceLeDiff, Nat.reduceEqDiff, Nat.sub_zero, Int.add_zero, Int.zero_add, Nat.add_zero, Nat.zero_add, Nat.zero_mul, h2]
      refine kb ?_ h
      simp only [isName, List.length_cons]; rw [decide_eq_false (by omega)]; simp
    · cases h3 : isFirst c.toNat with
      | true =>
        simp (disch := first | omega | (simp only [List.length_cons, List.length_nil, true_and, and_true, nx_push, nx_put, nx_mark]; try omega)) only [go_sem, ↓reduceIte, Nat.reduceAdd, Nat.reduceMul, Nat.reduceSub, Int.reduceToNat, UInt8.reduceToNat, Nat.reduceLeDiff, Nat.reduceEqDiff, Nat.sub_zero, Int.add_zero, Int.zero_add, Nat.add_zero, Nat.zero_add, Nat.zero_mul, h2, h3]
        refine atW 47 rfl (RName_loop (c :: r) 0 _ (by omega) rfl (by simp only [List.length_cons]; omega) rfl rfl (fun f' a b => ?_) (fun f' b => ?_))
        · simp (disch := first | omega | (simp only [List.length_cons, List.length_nil, true_and, and_true, nx_push, nx_put, nx_mark]; try omega)) only [go_sem, ↓reduceIte, Nat.reduceAdd, Nat.reduceMul, Nat.reduceSub, Int.reduceToNat, UInt8.reduceToNat, Nat.reduceLeDiff, Nat.reduceEqDiff, Nat.sub_zero, Int.add_zero, Int.zero_add, Nat.add_zero, Nat.zero_add, Nat.zero_mul, a]
          refine kb ?_ h
          simp only [isName, b, Bool.and_false]
        · simp (disch := first | omega | (simp only [List.length_cons, List.length_nil, true_and, and_true, nx_push, nx_put, nx_mark]; try omega)) only [go_sem, ↓reduceIte, Nat.reduceAdd, Nat.reduceMul, Nat.reduceSub, Int.reduceToNat, UInt8.reduceToNat, Nat.reduceLeDiff, Nat.reduceEqDiff, Nat.sub_zero, Int.add_zero, Int.zero_add, Nat.add_zero, Nat.zero_add, Nat.zero_mul]
          refine kb ?_ h
          simp only [isName, b, h3, List.length_cons]; simp only [Bool.true_and, Bool.and_true]; rw [decide_eq_true (by omega)]
      | false =>
        simp (disch := first | omega | (simp only [List.length_cons, List.length_nil, true_and, and_true, nx_push, nx_put, nx_mark]; try omega)) only [go_sem, ↓reduceIte, Nat.reduceAdd, Nat.reduceMul, Nat.reduceSub, Int.reduceToNat, UInt8.reduceToNat, Nat.reduceLeDiff, Nat.reduceEqDiff, Nat.sub_zero, Int.add_zero, Int.zero_add, Nat.add_zero, Nat.zero_add, Nat.zero_mul, h2, h3]
        exact kb (by simp [isName, h3]) h
/-- Any text, no longer than so. -/
def anyS (n : Nat) (K : AV → Mem → Prop) (H : Mem) : Prop := ∀ s : List UInt8, s.length ≤ n → K (.s s) H
theorem and_lt (a : Int) (m : Nat) (hm : m < 2147483648) : ∃ r : Nat, r ≤ m ∧ IntKind.i64.wrap (((BitVec.ofInt (IntKind.bits .i64) a &&& BitVec.ofInt (IntKind.bits .i64) (m : Int)).toNat : Nat) : Int) = (r : Int) := by
  have h : (BitVec.ofInt (IntKind.bits .i64) a &&& BitVec.ofInt (IntKind.bits .i64) (m : Int)).toNat ≤ m := by
    rw [BitVec.toNat_and]
    refine Nat.le_trans Nat.and_le_right ?_
    simp only [BitVec.toNat_ofInt]
    have e : ((m : Int) % ((2 ^ (IntKind.bits .i64) : Nat) : Int)) = m := Int.emod_eq_of_lt (by omega) (by show (m : Int) < ((2 ^ 64 : Nat) : Int); omega)
    rw [e]; simp
  refine ⟨_, h, ?_⟩
  exact wrap_i64 (by omega) (by omega)
theorem and_3 (a : Int) (m : Nat) (z : Int) (hz : z = m) (hm : m < 2147483648) : ∃ r : Nat, r ≤ m ∧ binA .and .int (.i .i64 a) (.i .i64 z) = some (.i .i64 (r : Int)) := by
  subst hz
  obtain ⟨r, hr, e⟩ := and_lt a m hm
  exact ⟨r, hr, by rw [bin_and]; exact congrArg (fun z => some (AV.i .i64 z)) e⟩
theorem Nm_run {a : Int} (hw : Wf H) (h : ∀ H' s, Ext H.next H H' → s.length ≤ 3 → K (.s s) H') : @R S (.f n_entaillaw1_Nm) [.i .i64 a] H ⟨K⟩ := by
  refine run_fn2 rfl rfl ?_
  unfold bd_entaillaw1_Nm
  obtain ⟨r, hr, e⟩ := and_3 a 7 7 rfl (by omega)
  have x : ∀ o, Ext H.next H (H.push o) := fun o => (Ext.refl hw).push _ (Nat.le_refl _)
  simp (disch := first | omega | (simp only [List.length_cons, List.length_nil, true_and, and_true, nx_push, nx_put, nx_mark]; try omega)) only [go_sem, ↓reduceIte, Nat.reduceAdd, Nat.reduceMul, Nat.reduceSub, Int.reduceToNat, UInt8.reduceToNat, Nat.reduceLeDiff, Nat.reduceEqDiff, Nat.sub_zero, Int.add_zero, Int.zero_add, Nat.add_zero, Nat.zero_add, Nat.zero_mul, e]
  obtain rfl | rfl | rfl | rfl | rfl | rfl | rfl | rfl : r = 0 ∨ r = 1 ∨ r = 2 ∨ r = 3 ∨ r = 4 ∨ r = 5 ∨ r = 6 ∨ r = 7 := by omega
  all_goals
    simp (disch := first | omega | (simp only [List.length_cons, List.length_nil, true_and, and_true, nx_push, nx_put, nx_mark]; try omega)) only [go_sem, ↓reduceIte, Nat.reduceAdd, Nat.reduceMul, Nat.reduceSub, Int.reduceToNat, UInt8.reduceToNat, Nat.reduceLeDiff, Nat.reduceEqDiff, Nat.sub_zero, Int.add_zero, Int.zero_add, Nat.add_zero, Nat.zero_add, Nat.zero_mul]
    exact h _ _ (x _) (by decide)
end Go.Fw.Ro
end
section
/- The verifier's lines. -/
namespace Go.Fw.Ro
open Go Go.Fw Go.Fw.Sys
set_option maxRecDepth 100000
variable {H : Mem} {K : AV → Mem → Prop}
theorem shr_any (a : Int) (k : Nat) (z : Int) (hz : z = k) : ∃ b : Int, binA .shr .int (.i .i64 a) (.i .u64 z) = some (.i .i64 b) := by
  subst hz
  rw [bin_shr, if_neg (by omega)]
  exact ⟨_, rfl⟩
theorem rem_3 (r : Nat) (m : Nat) (z : Int) (hz : z = m) (hm : 0 < m) (hr : r ≤ 1000) : ∃ q : Nat, q < m ∧ binA .rem .int (.i .i64 (r : Int)) (.i .i64 z) = some (.i .i64 (q : Int)) := by
  subst hz
  refine ⟨r % m, Nat.mod_lt _ hm, ?_⟩
  have h0 : ((m : Int) = 0) = False := by simp; omega
  have e2 : (r : Int).tmod (m : Int) = ((r % m : Nat) : Int) := rfl
  simp (disch := first | omega | (simp only [List.length_cons, List.length_nil, true_and, and_true, nx_push, nx_put, nx_mark]; try omega)) only [go_sem, ↓reduceIte, Nat.reduceAdd, Nat.reduceMul, Nat.reduceSub, Int.reduceToNat, UInt8.reduceToNat, Nat.reduceLeDiff, Nat.reduceEqDiff, Nat.sub_zero, Int.add_zero, Int.zero_add, Nat.add_zero, Nat.zero_add, Nat.zero_mul, h0, e2]
theorem Line_run {a : Int} (hw : Wf H) (h : ∀ H' s, Ext H.next H H' → s.length ≤ 40 → K (.s s) H') : @R S (.f n_entaillaw13_Line) [.i .i64 a] H ⟨K⟩ := by
  refine run_fn2 rfl rfl ?_
  unfold bd_entaillaw13_Line
  obtain ⟨b8, s8⟩ := shr_any a 8 8 rfl
  obtain ⟨r8, h8, e8⟩ := and_3 b8 255 255 rfl (by omega)
  obtain ⟨q8, g8, m8⟩ := rem_3 r8 3 3 rfl (by omega) (by omega)
  obtain ⟨b20, s20⟩ := shr_any a 20 20 rfl
  obtain ⟨b16, s16⟩ := shr_any a 16 16 rfl
  obtain ⟨r16, h16, e16⟩ := and_3 b16 3 3 rfl (by omega)
  obtain ⟨b18, s18⟩ := shr_any a 18 18 rfl
  obtain ⟨r18, h18, e18⟩ := and_3 b18 3 3 rfl (by omega)
  simp (disch := first | omega | (simp only [List.length_cons, List.length_nil, true_and, and_true, nx_push, nx_put, nx_mark]; try omega)) only [go_sem, ↓reduceIte, Nat.reduceAdd, Nat.reduceMul, Nat.reduceSub, Int.reduceToNat, UInt8.reduceToNat, Nat.reduceLeDiff, Nat.reduceEqDiff, Nat.sub_zero, Int.add_zero, Int.zero_add, Nat.add_zero, Nat.zero_add, Nat.zero_mul]
  refine w_dregB [] 3 rfl rfl rfl rfl ?_
  obtain ⟨u, lu, ju⟩ : ∃ u : List UInt8, u.length ≤ 1 ∧ [AV.s [117], AV.s [118], AV.s [119]][q8 * 1]? = some (.s u) := by
    obtain rfl | rfl | rfl : q8 = 0 ∨ q8 = 1 ∨ q8 = 2 := by omega
    all_goals exact ⟨_, by decide, rfl⟩
  obtain ⟨v, lv, jv⟩ : ∃ u : List UInt8, u.length ≤ 1 ∧ [AV.s [114], AV.s [115], AV.s [116], AV.s [113]][r16 * 1]? = some (.s u) := by
    obtain rfl | rfl | rfl | rfl : r16 = 0 ∨ r16 = 1 ∨ r16 = 2 ∨ r16 = 3 := by omega
    all_goals exact ⟨_, by decide, rfl⟩
  obtain ⟨w, lw, jw⟩ : ∃ u : List UInt8, u.length ≤ 1 ∧ [AV.s [114], AV.s [115], AV.s [116], AV.s [113]][r18 * 1]? = some (.s u) := by
    obtain rfl | rfl | rfl | rfl : r18 = 0 ∨ r18 = 1 ∨ r18 = 2 ∨ r18 = 3 := by omega
    all_goals exact ⟨_, by decide, rfl⟩
  simp (disch := first | omega | (simp only [List.length_cons, List.length_nil, true_and, and_true, nx_push, nx_put, nx_mark]; try omega)) only [go_sem, ↓reduceIte, Nat.reduceAdd, Nat.reduceMul, Nat.reduceSub, Int.reduceToNat, UInt8.reduceToNat, Nat.reduceLeDiff, Nat.reduceEqDiff, Nat.sub_zero, Int.add_zero, Int.zero_add, Nat.add_zero, Nat.zero_add, Nat.zero_mul, s8, e8, m8, s16, e16, s18, e18, ju, jv, jw, s20]
  have d1 : H.get H.next = .dead := hw.far (Nat.le_refl _)
  have d2 : H.get (H.next + 1) = .dead := hw.far (by omega)
  have d3 : H.get (H.next + 1 + 1) = .dead := hw.far (by omega)
  refine ⟨by rw [d1, d2, d3]; rfl, ?_⟩
  obtain ⟨r0, h0, e0⟩ := and_3 a 255 255 rfl (by omega)
  obtain ⟨q0, g0, m0⟩ := rem_3 r0 24 24 rfl (by omega) (by omega)
  obtain ⟨b23, s23⟩ := shr_any a 23 23 rfl
  obtain ⟨r23, h23, e23⟩ := and_3 b23 1 1 rfl (by omega)
  obtain ⟨b24, s24⟩ := shr_any a 24 24 rfl
  obtain ⟨r24, h24, e24⟩ := and_3 b24 3 3 rfl (by omega)
  obtain ⟨r87, h87, e87⟩ := and_3 b8 7 7 rfl (by omega)
  obtain ⟨y1, ly1, jy1⟩ : ∃ u : List UInt8, u.length ≤ 4 ∧ [AV.s [114, 101, 97, 100], AV.s [100, 111]][r23 * 1]? = some (.s u) := by
    obtain rfl | rfl : r23 = 0 ∨ r23 = 1 := by omega
    all_goals exact ⟨_, by decide, rfl⟩
  obtain ⟨y2, ly2, jy2⟩ : ∃ u : List UInt8, u.length ≤ 1 ∧ [AV.s [50], AV.s [51]][r23 * 1]? = some (.s u) := by
    obtain rfl | rfl : r23 = 0 ∨ r23 = 1 := by omega
    all_goals exact ⟨_, by decide, rfl⟩
  obtain ⟨y3, ly3, jy3⟩ : ∃ u : List UInt8, u.length ≤ 1 ∧ [AV.s [114], AV.s [115], AV.s [116], AV.s [113]][r24 * 1]? = some (.s u) := by
    obtain rfl | rfl | rfl | rfl : r24 = 0 ∨ r24 = 1 ∨ r24 = 2 ∨ r24 = 3 := by omega
    all_goals exact ⟨_, by decide, rfl⟩
  obtain ⟨y4, ly4, jy4⟩ : ∃ u : List UInt8, u.length ≤ 20 ∧ [AV.s [117, 115, 101, 114], AV.s [114, 111, 108, 101, 32, 65], AV.s [115, 115, 100, 32, 97, 32, 49, 32, 114, 32, 115], AV.s [100, 115, 100, 32, 97, 32, 48, 50, 32, 114, 32, 115], AV.s [103, 114, 97, 110, 116, 32, 114], AV.s [105, 110, 104, 101, 114, 105, 116, 32, 114, 32, 115, 32, 116], AV.s [117, 115, 101, 114, 32, 97, 32, 98], AV.s [115, 101, 115, 115, 105, 111, 110, 32, 97]][r87 * 1]? = some (.s u) := by
    obtain rfl | rfl | rfl | rfl | rfl | rfl | rfl | rfl : r87 = 0 ∨ r87 = 1 ∨ r87 = 2 ∨ r87 = 3 ∨ r87 = 4 ∨ r87 = 5 ∨ r87 = 6 ∨ r87 = 7 := by omega
    all_goals exact ⟨_, by decide, rfl⟩
  generalize hH1 : (((more (H.mark []) 3).put H.next (AO.mem [AV.s [117], AV.s [118], AV.s [119]] 1 ty_string true 0)).put (H.next + 1) (AO.mem [AV.s [114], AV.s [115], AV.s [116], AV.s [113]] 1 ty_string true 0)).put (H.next + 1 + 1) (AO.mem [AV.s [114], AV.s [115], AV.s [116], AV.s [113]] 1 ty_string true 0) = H1
  have hm3 : Ext H.next (H.mark []) (more (H.mark []) 3) := ⟨by simp only [nx_more, nx_mark]; omega, rfl, fun _ _ => rfl, (hw.mark []).more⟩
  have hE1 : Ext H.next (H.mark []) H1 := by rw [← hH1]; exact ((hm3.put (Nat.le_refl _) (by simp only [nx_more, nx_mark]; omega) _).put (by first | omega | (simp only [nx_push, nx_put, nx_mark]; try omega)) (by simp only [nx_more, nx_put, nx_mark]; omega) _).put (by first | omega | (simp only [nx_push, nx_put, nx_mark]; try omega)) (by simp only [nx_more, nx_put, nx_mark]; omega) _
  have n1 := hE1.next
  simp only [nx_mark] at n1
  clear hH1
  refine Nm_run hE1.wf (fun H2 o x2 lo => ?_)
  have hE2 := hE1.trans x2 n1
  have hm2 : H2.marks = [] := hE2.marks
  have n2 := hE2.next
  simp only [nx_mark] at n2
  have e1 : Ext H.next H (H2.mark H.marks) := Ext.mark hE2
  simp (disch := first | omega | (simp only [List.length_cons, List.length_nil, true_and, and_true, nx_push, nx_put, nx_mark]; try omega)) only [go_sem, ↓reduceIte, Nat.reduceAdd, Nat.reduceMul, Nat.reduceSub, Int.reduceToNat, UInt8.reduceToNat, Nat.reduceLeDiff, Nat.reduceEqDiff, Nat.sub_zero, Int.add_zero, Int.zero_add, Nat.add_zero, Nat.zero_add, Nat.zero_mul, e0, m0]
  obtain rfl | rfl | rfl | rfl | rfl | rfl | rfl | rfl | rfl | rfl | rfl | rfl | rfl | rfl | rfl | rfl | rfl | rfl | rfl | rfl | rfl | rfl | rfl | rfl : q0 = 0 ∨ q0 = 1 ∨ q0 = 2 ∨ q0 = 3 ∨ q0 = 4 ∨ q0 = 5 ∨ q0 = 6 ∨ q0 = 7 ∨ q0 = 8 ∨ q0 = 9 ∨ q0 = 10 ∨ q0 = 11 ∨ q0 = 12 ∨ q0 = 13 ∨ q0 = 14 ∨ q0 = 15 ∨ q0 = 16 ∨ q0 = 17 ∨ q0 = 18 ∨ q0 = 19 ∨ q0 = 20 ∨ q0 = 21 ∨ q0 = 22 ∨ q0 = 23 := by omega
  all_goals simp (disch := first | omega | (simp only [List.length_cons, List.length_nil, true_and, and_true, nx_push, nx_put, nx_mark]; try omega)) only [go_sem, ↓reduceIte, Nat.reduceAdd, Nat.reduceMul, Nat.reduceSub, Int.reduceToNat, UInt8.reduceToNat, Nat.reduceLeDiff, Nat.reduceEqDiff, Nat.sub_zero, Int.add_zero, Int.zero_add, Nat.add_zero, Nat.zero_add, Nat.zero_mul, hm2, s23, e23, jy1, s24, e24, s8, e87, jy4, List.length_append, List.length_cons, List.length_nil]
  all_goals try exact h _ _ e1 (by first | omega | (simp only [List.length_append, List.length_cons, List.length_nil]; omega))
  all_goals try exact h _ _ (e1.push _ (by simp only [nx_mark]; omega)) (by first | omega | (simp only [List.length_append, List.length_cons, List.length_nil]; omega))
  refine w_dregB [] 2 rfl rfl rfl rfl ?_
  simp (disch := first | omega | (simp only [List.length_cons, List.length_nil, true_and, and_true, nx_push, nx_put, nx_mark]; try omega)) only [go_sem, ↓reduceIte, Nat.reduceAdd, Nat.reduceMul, Nat.reduceSub, Int.reduceToNat, UInt8.reduceToNat, Nat.reduceLeDiff, Nat.reduceEqDiff, Nat.sub_zero, Int.add_zero, Int.zero_add, Nat.add_zero, Nat.zero_add, Nat.zero_mul, hm2, s23, e23, jy2, s24, e24, jy3, List.length_append, List.length_cons, List.length_nil]
  have d4 : H2.get H2.next = .dead := hE2.wf.far (Nat.le_refl _)
  have d5 : H2.get (H2.next + 1) = .dead := hE2.wf.far (by omega)
  refine ⟨by rw [d4, d5]; rfl, ?_⟩
  have em : Ext H.next H ((more H2 2).mark H.marks) := ⟨Nat.le_trans n2 (by simp only [nx_more, nx_mark]; omega), rfl, e1.get, hE2.wf.more⟩
  exact h _ _ ((em.put (by omega) (by simp only [nx_more, nx_mark]; omega) _).put (by omega) (by simp only [nx_more, nx_put, nx_mark]; omega) _) (by simp only [List.length_append, List.length_cons, List.length_nil]; omega)
/-! ### A file's text -/
def Ri : Gt → List AV → Int → Prop := fun _ c x => c = [.i .i64 x]
theorem Ri_mono : Mono Ri := fun _ _ _ _ _ h => h
end Go.Fw.Ro
end
section
/- A file's text. -/
namespace Go.Fw.Ro
open Go Go.Fw Go.Fw.Sys
set_option maxRecDepth 100000
variable {H : Mem} {K : AV → Mem → Prop}
theorem File_loop {v : AV} {xs : List Int} {wh : Bool} {H0 : Mem} {Q : Ex → Tr → Mem → Prop} (w0 : Wf H0) (hv : SlR 1 Ri H0.get v xs) : ∀ (n i : Nat) (f : Nat → AV) (H : Mem) (s : List UInt8), i + n = 31 → Ext H0.next H0 H → s.length ≤ 60 + 41 * i → f 0 = v → f 1 = .b wh → f 5 = .s s → f 6 = .i .i64 i →
    (∀ f' H' s', f' 5 = .s s' → s'.length ≤ 1400 → Ext H0.next H0 H' → Q (.ex 0) (trO 45 f') H') → @W S false (.loop lp_entaillaw13_File_0) (trO 45 f) H ⟨Q⟩ := by
  intro n
  have l1 := hv.len
  have stop : ∀ (i : Nat) (f : Nat → AV) (H : Mem) (s : List UInt8), i ≤ 31 → ¬ (i < xs.length ∧ i < 30) → Ext H0.next H0 H → s.length ≤ 60 + 41 * i → f 0 = v → f 1 = .b wh → f 5 = .s s → f 6 = .i .i64 i →
      (∀ f' H' s', f' 5 = .s s' → s'.length ≤ 1400 → Ext H0.next H0 H' → Q (.ex 0) (trO 45 f') H') → @W S false (.loop lp_entaillaw13_File_0) (trO 45 f) H ⟨Q⟩ := by
    intro i f H s hi hh hE hs f0 f1 f5 f6 k
    rw [w_loop]
    unfold lp_entaillaw13_File_0
    by_cases h1 : i < xs.length
    · have h2 : ¬ i < 30 := fun h2 => hh ⟨h1, h2⟩
      simp (disch := first | omega | (simp only [List.length_cons, List.length_nil, true_and, and_true, nx_push, nx_put, nx_mark]; try omega)) only [go_sem, ↓reduceIte, Nat.reduceAdd, Nat.reduceMul, Nat.reduceSub, Int.reduceToNat, UInt8.reduceToNat, Nat.reduceLeDiff, Nat.reduceEqDiff, Nat.sub_zero, Int.add_zero, Int.zero_add, Nat.add_zero, Nat.zero_add, Nat.zero_mul, f0, f1, f5, f6, l1]
      exact atQ 45 rfl (k _ H s rfl (by omega) hE)
    · simp (disch := first | omega | (simp only [List.length_cons, List.length_nil, true_and, and_true, nx_push, nx_put, nx_mark]; try omega)) only [go_sem, ↓reduceIte, Nat.reduceAdd, Nat.reduceMul, Nat.reduceSub, Int.reduceToNat, UInt8.reduceToNat, Nat.reduceLeDiff, Nat.reduceEqDiff, Nat.sub_zero, Int.add_zero, Int.zero_add, Nat.add_zero, Nat.zero_add, Nat.zero_mul, f0, f1, f5, f6, l1]
      exact atQ 45 rfl (k _ H s rfl (by omega) hE)
  induction n with
  | zero =>
    intro i f H s hi hE hs f0 f1 f5 f6 k
    exact stop i f H s (by omega) (by omega) hE hs f0 f1 f5 f6 k
  | succ n ih =>
    intro i f H s hi hE hs f0 f1 f5 f6 k
    by_cases hh : i < xs.length ∧ i < 30
    · obtain ⟨hlt, h30⟩ := hh
      have hx : xs[i]? = some xs[i] := List.getElem?_eq_getElem hlt
      generalize xs[i] = x at hx
      obtain ⟨id, p, c, y1, y2, y3, y4, y5, y6⟩ := (hv.mono Ri_mono (le_up hE w0 (Nat.le_refl _))).at_ hx
      simp only [Ri] at y2
      subst y2
      have y7 : ldO (H.get id) false 1 p = some (.i .i64 x) := y3 0 (by omega)
      obtain ⟨r0, h0, e0⟩ := and_3 x 255 255 rfl (by omega)
      obtain ⟨q0, g0, m0⟩ := rem_3 r0 24 24 rfl (by omega) (by omega)
      obtain ⟨b11, s11⟩ := shr_any x 11 11 rfl
      obtain ⟨r1, h1, e1⟩ := and_3 b11 3 3 rfl (by omega)
      have n0 := hE.next
      rw [w_loop]
      unfold lp_entaillaw13_File_0
      cases wh with
      | false =>
        simp (disch := first | omega | (simp only [List.length_cons, List.length_nil, true_and, and_true, nx_push, nx_put, nx_mark]; try omega)) only [go_sem, ↓reduceIte, Nat.reduceAdd, Nat.reduceMul, Nat.reduceSub, Int.reduceToNat, UInt8.reduceToNat, Nat.reduceLeDiff, Nat.reduceEqDiff, Nat.sub_zero, Int.add_zero, Int.zero_add, Nat.add_zero, Nat.zero_add, Nat.zero_mul, f0, f1, f5, f6, l1, y1, y7]
        refine Line_run hE.wf (fun H2 o x2 lo => ?_)
        have hE2 := hE.trans x2 n0
        simp (disch := first | omega | (simp only [List.length_cons, List.length_nil, true_and, and_true, nx_push, nx_put, nx_mark]; try omega)) only [go_sem, ↓reduceIte, Nat.reduceAdd, Nat.reduceMul, Nat.reduceSub, Int.reduceToNat, UInt8.reduceToNat, Nat.reduceLeDiff, Nat.reduceEqDiff, Nat.sub_zero, Int.add_zero, Int.zero_add, Nat.add_zero, Nat.zero_add, Nat.zero_mul, List.length_append, List.length_cons, List.length_nil]
        refine atW 45 rfl (ih (i + 1) _ H2 _ (by omega) hE2 (by simp only [List.length_append, List.length_cons, List.length_nil]; omega) rfl rfl rfl rfl k)
      | true =>
        by_cases c1 : q0 = 19 ∧ 0 < r1
        · obtain ⟨rfl, c2⟩ := c1
          simp (disch := first | omega | (simp only [List.length_cons, List.length_nil, true_and, and_true, nx_push, nx_put, nx_mark]; try omega)) only [go_sem, ↓reduceIte, Nat.reduceAdd, Nat.reduceMul, Nat.reduceSub, Int.reduceToNat, UInt8.reduceToNat, Nat.reduceLeDiff, Nat.reduceEqDiff, Nat.sub_zero, Int.add_zero, Int.zero_add, Nat.add_zero, Nat.zero_add, Nat.zero_mul, f0, f1, f5, f6, l1, y1, y7, e0, m0, s11, e1]
          refine atW 45 rfl (ih (i + 1) _ H s (by omega) hE (by omega) rfl rfl rfl rfl k)
        · by_cases c2 : q0 = 19
          · have c3 : ¬ 0 < r1 := fun h => c1 ⟨c2, h⟩
            subst c2
            simp (disch := first | omega | (simp only [List.length_cons, List.length_nil, true_and, and_true, nx_push, nx_put, nx_mark]; try omega)) only [go_sem, ↓reduceIte, Nat.reduceAdd, Nat.reduceMul, Nat.reduceSub, Int.reduceToNat, UInt8.reduceToNat, Nat.reduceLeDiff, Nat.reduceEqDiff, Nat.sub_zero, Int.add_zero, Int.zero_add, Nat.add_zero, Nat.zero_add, Nat.zero_mul, f0, f1, f5, f6, l1, y1, y7, e0, m0, s11, e1]
            refine Line_run hE.wf (fun H2 o x2 lo => ?_)
            have hE2 := hE.trans x2 n0
            simp (disch := first | omega | (simp only [List.length_cons, List.length_nil, true_and, and_true, nx_push, nx_put, nx_mark]; try omega)) only [go_sem, ↓reduceIte, Nat.reduceAdd, Nat.reduceMul, Nat.reduceSub, Int.reduceToNat, UInt8.reduceToNat, Nat.reduceLeDiff, Nat.reduceEqDiff, Nat.sub_zero, Int.add_zero, Int.zero_add, Nat.add_zero, Nat.zero_add, Nat.zero_mul, List.length_append, List.length_cons, List.length_nil]
            refine atW 45 rfl (ih (i + 1) _ H2 _ (by omega) hE2 (by simp only [List.length_append, List.length_cons, List.length_nil]; omega) rfl rfl rfl rfl k)
          · simp (disch := first | omega | (simp only [List.length_cons, List.length_nil, true_and, and_true, nx_push, nx_put, nx_mark]; try omega)) only [go_sem, ↓reduceIte, Nat.reduceAdd, Nat.reduceMul, Nat.reduceSub, Int.reduceToNat, UInt8.reduceToNat, Nat.reduceLeDiff, Nat.reduceEqDiff, Nat.sub_zero, Int.add_zero, Int.zero_add, Nat.add_zero, Nat.zero_add, Nat.zero_mul, f0, f1, f5, f6, l1, y1, y7, e0, m0, s11, e1]
            refine Line_run hE.wf (fun H2 o x2 lo => ?_)
            have hE2 := hE.trans x2 n0
            simp (disch := first | omega | (simp only [List.length_cons, List.length_nil, true_and, and_true, nx_push, nx_put, nx_mark]; try omega)) only [go_sem, ↓reduceIte, Nat.reduceAdd, Nat.reduceMul, Nat.reduceSub, Int.reduceToNat, UInt8.reduceToNat, Nat.reduceLeDiff, Nat.reduceEqDiff, Nat.sub_zero, Int.add_zero, Int.zero_add, Nat.add_zero, Nat.zero_add, Nat.zero_mul, List.length_append, List.length_cons, List.length_nil]
            refine atW 45 rfl (ih (i + 1) _ H2 _ (by omega) hE2 (by simp only [List.length_append, List.length_cons, List.length_nil]; omega) rfl rfl rfl rfl k)
    · exact stop i f H s (by omega) hh hE hs f0 f1 f5 f6 k
theorem File_run {v : AV} {xs : List Int} {wh : Bool} (hw : Wf H) (hv : SlR 1 Ri H.get v xs) (h : ∀ H' s, Ext H.next H H' → s.length ≤ 1400 → K (.s s) H') : @R S (.f n_entaillaw13_File) [v, .b wh] H ⟨K⟩ := by
  refine run_fn2 rfl rfl ?_
  unfold bd_entaillaw13_File
  cases wh
  all_goals
    simp (disch := first | omega | (simp only [List.length_cons, List.length_nil, true_and, and_true, nx_push, nx_put, nx_mark]; try omega)) only [go_sem, ↓reduceIte, Nat.reduceAdd, Nat.reduceMul, Nat.reduceSub, Int.reduceToNat, UInt8.reduceToNat, Nat.reduceLeDiff, Nat.reduceEqDiff, Nat.sub_zero, Int.add_zero, Int.zero_add, Nat.add_zero, Nat.zero_add, Nat.zero_mul]
    refine atW 45 rfl (File_loop (H0 := H.mark []) hw hv 31 0 _ (H.mark []) _ rfl (Ext.refl (H := H.mark []) hw) (by decide) rfl rfl rfl rfl (fun f' H' s f5 ls hE => ?_))
    have hm : H'.marks = [] := hE.marks
    simp (disch := first | omega | (simp only [List.length_cons, List.length_nil, true_and, and_true, nx_push, nx_put, nx_mark]; try omega)) only [go_sem, ↓reduceIte, Nat.reduceAdd, Nat.reduceMul, Nat.reduceSub, Int.reduceToNat, UInt8.reduceToNat, Nat.reduceLeDiff, Nat.reduceEqDiff, Nat.sub_zero, Int.add_zero, Int.zero_add, Nat.add_zero, Nat.zero_add, Nat.zero_mul, f5, hm]
    exact h _ _ (Ext.mark hE) ls
end Go.Fw.Ro
end
section
/- The document's words and lines. -/
namespace Go.Fw.Ro
open Go Go.Fw Go.Fw.Sys
set_option maxRecDepth 100000
variable {H : Mem} {K : AV → Mem → Prop}
theorem tk_cons (c : UInt8) (r : List UInt8) : tk (c :: r) = if c.toNat = 32 ∨ c.toNat = 9 then [] else c :: tk r := by
  unfold tk
  by_cases h : c.toNat = 32 ∨ c.toNat = 9
  · rw [if_pos h, List.takeWhile_cons, if_neg (by rcases h with e | e <;> simp [e])]
  · rw [if_neg h, List.takeWhile_cons, if_pos (by simp; omega)]
theorem RWk_loop {s : List UInt8} {Q : Ex → Tr → Mem → Prop} (hs : s.length ≤ 1000000) : ∀ (r : List UInt8) (k : Nat) (f : Nat → AV), s.drop k = r → k + r.length = s.length → f 0 = .s s → f 7 = .i .i64 k →
    (∀ f', f' 0 = .s s → f' 1 = f 1 → f' 5 = f 5 → f' 6 = f 6 → f' 7 = .i .i64 ((k + (tk r).length : Nat) : Int) → Q (.ex 2) (trO 61 f') H) → @W S false (.loop lp_entailref1_words_0) (trO 61 f) H ⟨Q⟩ := by
  intro r
  induction r with
  | nil =>
    intro k f h1 h2 e0 e7 q
    simp at h2
    rw [w_loop]
    unfold lp_entailref1_words_0
    simp (disch := first | omega | (simp only [List.length_cons, List.length_nil, true_and, and_true, nx_push, nx_put, nx_mark]; try omega)) only [go_sem, ↓reduceIte, Nat.reduceAdd, Nat.reduceMul, Nat.reduceSub, Int.reduceToNat, UInt8.reduceToNat, Nat.reduceLeDiff, Nat.reduceEqDiff, Nat.sub_zero, Int.add_zero, Int.zero_add, Nat.add_zero, Nat.zero_add, Nat.zero_mul, e0, e7, h2]
    exact atQ 61 rfl (q _ rfl rfl rfl rfl (by subst h2; rfl))
  | cons c r ih =>
    intro k f h1 h2 e0 e7 q
    simp at h2
    have hc : s[k]? = some c := by rw [← List.head?_drop, h1]; rfl
    have hr1 : s.drop (k + 1) = r := by rw [← List.drop_drop, h1]; rfl
    rw [w_loop]
    unfold lp_entailref1_words_0
    by_cases h32 : (c.toNat : Int) = 32
    · simp (disch := first | omega | (simp only [List.length_cons, List.length_nil, true_and, and_true, nx_push, nx_put, nx_mark]; try omega)) only [go_sem, ↓reduceIte, Nat.reduceAdd, Nat.reduceMul, Nat.reduceSub, Int.reduceToNat, UInt8.reduceToNat, Nat.reduceLeDiff, Nat.reduceEqDiff, Nat.sub_zero, Int.add_zero, Int.zero_add, Nat.add_zero, Nat.zero_add, Nat.zero_mul, e0, e7, hc, h32]
      exact atQ 61 rfl (q _ rfl rfl rfl rfl (by rw [tk_cons, if_pos (by omega)]; rfl))
    · by_cases h9 : (c.toNat : Int) = 9
      · simp (disch := first | omega | (simp only [List.length_cons, List.length_nil, true_and, and_true, nx_push, nx_put, nx_mark]; try omega)) only [go_sem, ↓reduceIte, Nat.reduceAdd, Nat.reduceMul, Nat.reduceSub, Int.reduceToNat, UInt8.reduceToNat, Nat.reduceLeDiff, Nat.reduceEqDiff, Nat.sub_zero, Int.add_zero, Int.zero_add, Nat.add_zero, Nat.zero_add, Nat.zero_mul, e0, e7, hc, h32, h9]
        exact atQ 61 rfl (q _ rfl rfl rfl rfl (by rw [tk_cons, if_pos (by omega)]; rfl))
      · simp (disch := first | omega | (simp only [List.length_cons, List.length_nil, true_and, and_true, nx_push, nx_put, nx_mark]; try omega)) only [go_sem, ↓reduceIte, Nat.reduceAdd, Nat.reduceMul, Nat.reduceSub, Int.reduceToNat, UInt8.reduceToNat, Nat.reduceLeDiff, Nat.reduceEqDiff, Nat.sub_zero, Int.add_zero, Int.zero_add, Nat.add_zero, Nat.zero_add, Nat.zero_mul, e0, e7, hc, h32, h9]
        refine atW 61 rfl (ih (k + 1) _ hr1 (by omega) rfl rfl (fun f' a0 a1 a5 a6 a7 => q f' a0 a1 a5 a6 (by rw [a7, tk_cons, if_neg (by omega)]; simp only [List.length_cons]; congr 1; omega)))
theorem RW_loop {m : Nat} {s : List UInt8} {p : Int} {Q : Ex → Tr → Mem → Prop} (hs : s.length ≤ 1000000) (hp : 0 ≤ p) (hp2 : p ≤ 1000000) : ∀ (n i : Nat) (f : Nat → AV) (H : Mem) (v : AV) (acc : List (List UInt8 × Int)), s.length - i ≤ n → i ≤ s.length → acc.length ≤ i → f 0 = .s s → f 1 = .i .i64 p → f 5 = v → f 6 = .i .i64 i → SlO 2 ty_api_Word Rword m H v acc → Wf H → m ≤ H.next →
    (∀ f' H' v', f' 4 = v' → SlO 2 ty_api_Word Rword m H' v' (acc ++ wordsF n (s.drop i) (p + i)) → Ext m H H' → Q .rt (trO 61 f') H') →
    (∀ f' H' v', f' 5 = v' → SlO 2 ty_api_Word Rword m H' v' (acc ++ wordsF n (s.drop i) (p + i)) → Ext m H H' → Q (.ex 0) (trO 61 f') H') → @W S false (.loop lp_entailref1_words_1) (trO 61 f) H ⟨Q⟩ := by
  intro n
  induction n with
  | zero =>
    intro i f H v acc h1 h2 h3 e0 e1 e5 e6 hO hw hmn kr k
    have : i = s.length := by omega
    subst this
    rw [w_loop]
    unfold lp_entailref1_words_1
    simp (disch := first | omega | (simp only [List.length_cons, List.length_nil, true_and, and_true, nx_push, nx_put, nx_mark]; try omega)) only [go_sem, ↓reduceIte, Nat.reduceAdd, Nat.reduceMul, Nat.reduceSub, Int.reduceToNat, UInt8.reduceToNat, Nat.reduceLeDiff, Nat.reduceEqDiff, Nat.sub_zero, Int.add_zero, Int.zero_add, Nat.add_zero, Nat.zero_add, Nat.zero_mul, e0, e1, e5, e6]
    exact atQ 61 rfl (k _ H v rfl (by simpa [wordsF] using hO) (Ext.refl hw))
  | succ n ih =>
    intro i f H v acc h1 h2 h3 e0 e1 e5 e6 hO hw hmn kr k
    rw [w_loop]
    unfold lp_entailref1_words_1
    simp (disch := first | omega | (simp only [List.length_cons, List.length_nil, true_and, and_true, nx_push, nx_put, nx_mark]; try omega)) only [go_sem, ↓reduceIte, Nat.reduceAdd, Nat.reduceMul, Nat.reduceSub, Int.reduceToNat, UInt8.reduceToNat, Nat.reduceLeDiff, Nat.reduceEqDiff, Nat.sub_zero, Int.add_zero, Int.zero_add, Nat.add_zero, Nat.zero_add, Nat.zero_mul, e0, e1, e5, e6]
    refine cnd_dec (fun h => ?_) (fun h => ?_)
    · obtain ⟨c, r, hr⟩ : ∃ c r, s.drop i = c :: r := by
        cases e : s.drop i with
        | nil => have := congrArg List.length e; simp at this; omega
        | cons c r => exact ⟨c, r, rfl⟩
      have hlen : (c :: r).length = s.length - i := by rw [← hr]; simp
      have hc : s[i]? = some c := by rw [← List.head?_drop, hr]; rfl
      have hr1 : s.drop (i + 1) = r := by rw [← List.drop_drop, hr]; rfl
      simp only [List.length_cons] at hlen
      rw [hr] at k kr
      have skip : (c.toNat = 32 ∨ c.toNat = 9) → ∀ (f' : Nat → AV), f' 0 = .s s → f' 1 = .i .i64 p → f' 5 = v → f' 6 = .i .i64 ((i + 1 : Nat) : Int) → @W S false (.loop lp_entailref1_words_1) (trO 61 f') H ⟨Q⟩ := fun hb f' a0 a1 a5 a6 => by
        refine ih (i + 1) f' H v acc (by omega) (by omega) (by omega) a0 a1 a5 a6 hO hw hmn (fun f' H' v' a b => kr f' H' v' a ?_) (fun f' H' v' a b => k f' H' v' a ?_)
        all_goals
          rw [wordsF, if_pos hb, ← hr1]
          rw [show p + (i : Int) + 1 = p + ((i + 1 : Nat) : Int) by omega]; exact b
      by_cases h32 : (c.toNat : Int) = 32
      · simp (disch := first | omega | (simp only [List.length_cons, List.length_nil, true_and, and_true, nx_push, nx_put, nx_mark]; try omega)) only [go_sem, ↓reduceIte, Nat.reduceAdd, Nat.reduceMul, Nat.reduceSub, Int.reduceToNat, UInt8.reduceToNat, Nat.reduceLeDiff, Nat.reduceEqDiff, Nat.sub_zero, Int.add_zero, Int.zero_add, Nat.add_zero, Nat.zero_add, Nat.zero_mul, e0, e1, e5, e6, hc, h32]
        refine atW 61 rfl (skip (by omega) _ rfl rfl rfl rfl)
      · by_cases h9 : (c.toNat : Int) = 9
        · simp (disch := first | omega | (simp only [List.length_cons, List.length_nil, true_and, and_true, nx_push, nx_put, nx_mark]; try omega)) only [go_sem, ↓reduceIte, Nat.reduceAdd, Nat.reduceMul, Nat.reduceSub, Int.reduceToNat, UInt8.reduceToNat, Nat.reduceLeDiff, Nat.reduceEqDiff, Nat.sub_zero, Int.add_zero, Int.zero_add, Nat.add_zero, Nat.zero_add, Nat.zero_mul, e0, e1, e5, e6, hc, h32, h9]
          refine atW 61 rfl (skip (by omega) _ rfl rfl rfl rfl)
        · have hb : ¬ (c.toNat = 32 ∨ c.toNat = 9) := by omega
          by_cases hh : (c.toNat : Int) = 35
          · simp (disch := first | omega | (simp only [List.length_cons, List.length_nil, true_and, and_true, nx_push, nx_put, nx_mark]; try omega)) only [go_sem, ↓reduceIte, Nat.reduceAdd, Nat.reduceMul, Nat.reduceSub, Int.reduceToNat, UInt8.reduceToNat, Nat.reduceLeDiff, Nat.reduceEqDiff, Nat.sub_zero, Int.add_zero, Int.zero_add, Nat.add_zero, Nat.zero_add, Nat.zero_mul, e0, e1, e5, e6, hc, h32, h9, hh]
            exact atQ 61 rfl (kr _ H v rfl (by rw [wordsF, if_neg hb, if_pos (by omega), List.append_nil]; exact hO) (Ext.refl hw))
          · simp (disch := first | omega | (simp only [List.length_cons, List.length_nil, true_and, and_true, nx_push, nx_put, nx_mark]; try omega)) only [go_sem, ↓reduceIte, Nat.reduceAdd, Nat.reduceMul, Nat.reduceSub, Int.reduceToNat, UInt8.reduceToNat, Nat.reduceLeDiff, Nat.reduceEqDiff, Nat.sub_zero, Int.add_zero, Int.zero_add, Nat.add_zero, Nat.zero_add, Nat.zero_mul, e0, e1, e5, e6, hc, h32, h9, hh]
            refine atW 61 rfl (RWk_loop hs (c :: r) i _ hr (by simp only [List.length_cons]; omega) rfl rfl (fun f' a0 a1 a5 a6 a7 => ?_))
            have gl : (tk (c :: r)).length ≤ (c :: r).length := by rw [← tk_take]; exact List.length_take_le' _ _
            have g0 : 0 < (tk (c :: r)).length := by rw [tk_cons, if_neg hb]; simp
            obtain ⟨L, hL⟩ : ∃ L, L = (tk (c :: r)).length := ⟨_, rfl⟩
            rw [← hL] at gl g0 a7
            simp only [List.length_cons] at gl
            have b1 : f' 1 = .i .i64 p := a1
            have b5 : f' 5 = v := a5
            have b6 : f' 6 = .i .i64 i := a6
            have htk : (s.drop i).take L = tk (c :: r) := by rw [hr, hL, tk_take]
            have key : ∀ (f2 : Nat → AV) (H' : Mem) (v' : AV), f2 0 = .s s → f2 1 = .i .i64 p → f2 5 = v' → f2 6 = .i .i64 ((i + L : Nat) : Int) → SlO 2 ty_api_Word Rword m H' v' (acc ++ [(tk (c :: r), p + (i : Int))]) → Ext m H H' → @W S false (.loop lp_entailref1_words_1) (trO 61 f2) H' ⟨Q⟩ := fun f2 H' v' a0 a1 a5 a6 hO' hw' => by
              have hd : (c :: r).drop L = s.drop (i + L) := by rw [← List.drop_drop, hr]
              refine ih (i + L) f2 H' v' _ (by omega) (by omega) (by simp; omega) a0 a1 a5 a6 hO' hw'.wf (Nat.le_trans hmn hw'.next) (fun f2 H2 v2 b1 b2 b3 => kr f2 H2 v2 b1 ?_ (hw'.trans b3 (Nat.le_refl _))) (fun f2 H2 v2 b1 b2 b3 => k f2 H2 v2 b1 ?_ (hw'.trans b3 (Nat.le_refl _)))
              all_goals
                rw [wordsF, if_neg hb, if_neg (by omega), ← hL, hd]
                rw [List.append_assoc, List.singleton_append] at b2
                rw [show p + ((i + L : Nat) : Int) = p + (i : Int) + (L : Int) by omega] at b2
                exact b2
            simp (disch := first | omega | (simp only [List.length_cons, List.length_nil, true_and, and_true, nx_push, nx_put, nx_mark]; try omega)) only [go_sem, ↓reduceIte, Nat.reduceAdd, Nat.reduceMul, Nat.reduceSub, Int.reduceToNat, UInt8.reduceToNat, Nat.reduceLeDiff, Nat.reduceEqDiff, Nat.sub_zero, Int.add_zero, Int.zero_add, Nat.add_zero, Nat.zero_add, Nat.zero_mul, a0, b1, b5, b6, a7]
            refine onE_of (SlO.app1 (x := (tk (c :: r), p + (i : Int))) (c := [.s (List.take (i + L - i) (List.drop i s)), .i .i64 (p + (i : Int))]) Rword_mono hO hw hmn (Ext.refl hw) rfl rfl (by rw [show i + L - i = L by omega, htk]; rfl) (by omega) rfl (by omega) (by omega)) (fun v' H' hh => ?_)
            simp (disch := first | omega | (simp only [List.length_cons, List.length_nil, true_and, and_true, nx_push, nx_put, nx_mark]; try omega)) only [go_sem, ↓reduceIte, Nat.reduceAdd, Nat.reduceMul, Nat.reduceSub, Int.reduceToNat, UInt8.reduceToNat, Nat.reduceLeDiff, Nat.reduceEqDiff, Nat.sub_zero, Int.add_zero, Int.zero_add, Nat.add_zero, Nat.zero_add, Nat.zero_mul]
            refine atW 61 rfl (key _ H' v' rfl rfl rfl rfl hh.1 hh.2.1)
    · have : i = s.length := by omega
      subst this
      simp (disch := first | omega | (simp only [List.length_cons, List.length_nil, true_and, and_true, nx_push, nx_put, nx_mark]; try omega)) only [go_sem, ↓reduceIte, Nat.reduceAdd, Nat.reduceMul, Nat.reduceSub, Int.reduceToNat, UInt8.reduceToNat, Nat.reduceLeDiff, Nat.reduceEqDiff, Nat.sub_zero, Int.add_zero, Int.zero_add, Nat.add_zero, Nat.zero_add, Nat.zero_mul]
      exact atQ 61 rfl (k _ H v rfl (by simpa [wordsF] using hO) (Ext.refl hw))
theorem RW_run {s : List UInt8} {p : Int} (hs : s.length ≤ 1000000) (hp : 0 ≤ p) (hp2 : p ≤ 1000000) (hw : Wf H) (h : ∀ v H', Ext H.next H H' → SlR 2 Rword (sn H.next H') v (wordsF s.length s p) → K v H') : @R S (.f n_entailref1_words) [.s s, .i .i64 p] H ⟨K⟩ := by
  refine run_fn2 rfl rfl ?_
  unfold bd_entailref1_words
  simp (disch := first | omega | (simp only [List.length_cons, List.length_nil, true_and, and_true, nx_push, nx_put, nx_mark]; try omega)) only [go_sem, ↓reduceIte, Nat.reduceAdd, Nat.reduceMul, Nat.reduceSub, Int.reduceToNat, UInt8.reduceToNat, Nat.reduceLeDiff, Nat.reduceEqDiff, Nat.sub_zero, Int.add_zero, Int.zero_add, Nat.add_zero, Nat.zero_add, Nat.zero_mul]
  refine atW 61 rfl (RW_loop (m := H.next) hs hp hp2 s.length 0 _ (H.mark []) .nsl [] (by omega) (by omega) (by simp) rfl rfl rfl rfl SlO.nil (hw.mark _) (Nat.le_refl _) (fun f' H' v' a b d => ?_) (fun f' H' v' a b d => ?_))
  all_goals
    have hm : H'.marks = [] := d.marks
    simp (disch := first | omega | (simp only [List.length_cons, List.length_nil, true_and, and_true, nx_push, nx_put, nx_mark]; try omega)) only [go_sem, ↓reduceIte, Nat.reduceAdd, Nat.reduceMul, Nat.reduceSub, Int.reduceToNat, UInt8.reduceToNat, Nat.reduceLeDiff, Nat.reduceEqDiff, Nat.sub_zero, Int.add_zero, Int.zero_add, Nat.add_zero, Nat.zero_add, Nat.zero_mul, a, hm]
    have b' : SlO 2 ty_api_Word Rword H.next H' v' (wordsF s.length s p) := by simpa using b
    exact h _ _ (Ext.mark d) (SlO.read Rword_mono b')
/-! ### Lines: how many; what may not be -/
theorem cntOf_cons (c : UInt8) (l : List UInt8) : cntOf (c :: l) 10 = (if c.toNat = 10 then 1 else 0) + cntOf l 10 := by
  have e1 := cntF_eq 10 (c :: l) 0
  have e2 := cntF_eq 10 l 0
  simp only [List.count_cons] at e1
  unfold cntOf
  rw [show (10 : Nat) = 10 % 256 from rfl, e1, e2]
  have : ((10 : Nat).toUInt8) = (10 : UInt8) := rfl
  rw [this]
  by_cases h : c = 10
  · subst h; simp; omega
  · have h2 : ¬ c.toNat = 10 := fun e => h (UInt8.toNat_inj.1 (by rw [e]; rfl))
    simp [h, h2]
theorem RL0_loop {s : List UInt8} {Q : Ex → Tr → Mem → Prop} (hs : s.length ≤ 1000000) : ∀ (r : List UInt8) (i : Nat) (f : Nat → AV) (c0 : Nat), s.drop i = r → i + r.length = s.length → c0 ≤ i → f 0 = .s s → f 5 = .i .i64 c0 → f 6 = .i .i64 i →
    (∀ f', f' 0 = .s s → f' 2 = f 2 → f' 3 = f 3 → f' 4 = f 4 → f' 5 = .i .i64 ((c0 + cntOf r 10 : Nat) : Int) → Q (.ex 0) (trO 125 f') H) → @W S false (.loop lp_entailref1_Lines_0) (trO 125 f) H ⟨Q⟩ := by
  intro r
  induction r with
  | nil =>
    intro i f c0 h1 h2 h3 e0 e5 e6 q
    simp at h2
    rw [w_loop]
    unfold lp_entailref1_Lines_0
    simp (disch := first | omega | (simp only [List.length_cons, List.length_nil, true_and, and_true, nx_push, nx_put, nx_mark]; try omega)) only [go_sem, ↓reduceIte, Nat.reduceAdd, Nat.reduceMul, Nat.reduceSub, Int.reduceToNat, UInt8.reduceToNat, Nat.reduceLeDiff, Nat.reduceEqDiff, Nat.sub_zero, Int.add_zero, Int.zero_add, Nat.add_zero, Nat.zero_add, Nat.zero_mul, e0, e5, e6, h2]
    exact atQ 125 rfl (q _ rfl rfl rfl rfl rfl)
  | cons c r ih =>
    intro i f c0 h1 h2 h3 e0 e5 e6 q
    simp at h2
    have hc : s[i]? = some c := by rw [← List.head?_drop, h1]; rfl
    have hr1 : s.drop (i + 1) = r := by rw [← List.drop_drop, h1]; rfl
    rw [w_loop]
    unfold lp_entailref1_Lines_0
    by_cases h10 : (c.toNat : Int) = 10
    · simp (disch := first | omega | (simp only [List.length_cons, List.length_nil, true_and, and_true, nx_push, nx_put, nx_mark]; try omega)) only [go_sem, ↓reduceIte, Nat.reduceAdd, Nat.reduceMul, Nat.reduceSub, Int.reduceToNat, UInt8.reduceToNat, Nat.reduceLeDiff, Nat.reduceEqDiff, Nat.sub_zero, Int.add_zero, Int.zero_add, Nat.add_zero, Nat.zero_add, Nat.zero_mul, e0, e5, e6, hc, h10]
      refine atW 125 rfl (ih (i + 1) _ (c0 + 1) hr1 (by omega) (by omega) rfl rfl rfl (fun f' a0 a2 a3 a4 a5 => q f' a0 a2 a3 a4 (by rw [a5, cntOf_cons, if_pos (by omega)]; congr 2; omega)))
    · simp (disch := first | omega | (simp only [List.length_cons, List.length_nil, true_and, and_true, nx_push, nx_put, nx_mark]; try omega)) only [go_sem, ↓reduceIte, Nat.reduceAdd, Nat.reduceMul, Nat.reduceSub, Int.reduceToNat, UInt8.reduceToNat, Nat.reduceLeDiff, Nat.reduceEqDiff, Nat.sub_zero, Int.add_zero, Int.zero_add, Nat.add_zero, Nat.zero_add, Nat.zero_mul, e0, e5, e6, hc, h10]
      refine atW 125 rfl (ih (i + 1) _ c0 hr1 (by omega) (by omega) rfl rfl rfl (fun f' a0 a2 a3 a4 a5 => q f' a0 a2 a3 a4 (by rw [a5, cntOf_cons, if_neg (by omega)]; congr 2; omega)))
/-- Where a byte stands that may not: a CR may at a line's end alone. -/
def crOK : List UInt8 → Bool
  | [] => true
  | d :: _ => decide (d.toNat = 10)
def badR : List UInt8 → Nat → Option Nat
  | [], _ => none
  | c :: r, k => if (c.toNat = 13 ∧ crOK r = true) ∨ c.toNat = 10 ∨ badB c = false then badR r (k + 1) else some k
theorem RL1_loop {s : List UInt8} {Q : Ex → Tr → Mem → Prop} (hs : s.length ≤ 1000000) : ∀ (r : List UInt8) (i : Nat) (f : Nat → AV), s.drop i = r → i + r.length = s.length → f 0 = .s s → f 7 = .i .i64 i →
    (∀ f' (k : Nat), badR r i = some k → f' 2 = .nsl → f' 3 = .i .i64 k → f' 4 = .i .i64 7 → Q .rt (trO 125 f') H) →
    (∀ f', badR r i = none → f' 0 = .s s → Q (.ex 2) (trO 125 f') H) → @W S false (.loop lp_entailref1_Lines_1) (trO 125 f) H ⟨Q⟩ := by
  intro r
  induction r with
  | nil =>
    intro i f h1 h2 e0 e7 kr k
    simp at h2
    rw [w_loop]
    unfold lp_entailref1_Lines_1
    simp (disch := first | omega | (simp only [List.length_cons, List.length_nil, true_and, and_true, nx_push, nx_put, nx_mark]; try omega)) only [go_sem, ↓reduceIte, Nat.reduceAdd, Nat.reduceMul, Nat.reduceSub, Int.reduceToNat, UInt8.reduceToNat, Nat.reduceLeDiff, Nat.reduceEqDiff, Nat.sub_zero, Int.add_zero, Int.zero_add, Nat.add_zero, Nat.zero_add, Nat.zero_mul, e0, e7, h2]
    exact atQ 125 rfl (k _ rfl rfl)
  | cons c r ih =>
    intro i f h1 h2 e0 e7 kr k
    simp at h2
    have hc : s[i]? = some c := by rw [← List.head?_drop, h1]; rfl
    have hr1 : s.drop (i + 1) = r := by rw [← List.drop_drop, h1]; rfl
    have bb : badB c = false ↔ (c.toNat = 9 ∨ (32 ≤ c.toNat ∧ c.toNat ≤ 126)) := by
      simp only [badB, Bool.and_eq_false_iff, Bool.not_eq_false', decide_eq_true_eq, Bool.or_eq_false_iff, decide_eq_false_iff_not]; omega
    have good : ((c.toNat = 13 ∧ crOK r = true) ∨ c.toNat = 10 ∨ badB c = false) → ∀ f' : Nat → AV, f' 0 = .s s → f' 7 = .i .i64 ((i + 1 : Nat) : Int) → @W S false (.loop lp_entailref1_Lines_1) (trO 125 f') H ⟨Q⟩ := fun hg f' a0 a7 => by
      refine ih (i + 1) f' hr1 (by omega) a0 a7 (fun f2 k2 b => kr f2 k2 ?_) (fun f2 b => k f2 ?_)
      all_goals rw [badR, if_pos hg]; exact b
    have bad : ¬ ((c.toNat = 13 ∧ crOK r = true) ∨ c.toNat = 10 ∨ badB c = false) → badR (c :: r) i = some i := fun hg => by rw [badR, if_neg hg]
    rw [w_loop]
    unfold lp_entailref1_Lines_1
    by_cases h13 : (c.toNat : Int) = 13
    · cases r with
      | nil =>
        simp at h2
        have hl : ((i : Int) + 1 = s.length) = True := eq_true (by omega)
        simp (disch := first | omega | (simp only [List.length_cons, List.length_nil, true_and, and_true, nx_push, nx_put, nx_mark]; try omega)) only [go_sem, ↓reduceIte, Nat.reduceAdd, Nat.reduceMul, Nat.reduceSub, Int.reduceToNat, UInt8.reduceToNat, Nat.reduceLeDiff, Nat.reduceEqDiff, Nat.sub_zero, Int.add_zero, Int.zero_add, Nat.add_zero, Nat.zero_add, Nat.zero_mul, e0, e7, hc, h13, hl]
        refine atW 125 rfl (good (.inl ⟨by omega, rfl⟩) _ rfl rfl)
      | cons d t =>
        simp only [List.length_cons] at h2
        have hd : s[((i : Int) + 1).toNat]? = some d := by rw [show ((i : Int) + 1).toNat = i + 1 by omega, ← List.head?_drop, hr1]; rfl
        have hl : ¬ ((i : Int) + 1 = s.length) := by omega
        by_cases hd10 : (d.toNat : Int) = 10
        · simp (disch := first | omega | (simp only [List.length_cons, List.length_nil, true_and, and_true, nx_push, nx_put, nx_mark]; try omega)) only [go_sem, ↓reduceIte, Nat.reduceAdd, Nat.reduceMul, Nat.reduceSub, Int.reduceToNat, UInt8.reduceToNat, Nat.reduceLeDiff, Nat.reduceEqDiff, Nat.sub_zero, Int.add_zero, Int.zero_add, Nat.add_zero, Nat.zero_add, Nat.zero_mul, e0, e7, hc, h13, hl, hd, hd10]
          refine atW 125 rfl (good (.inl ⟨by omega, by simp only [crOK, decide_eq_true_eq]; omega⟩) _ rfl rfl)
        · simp (disch := first | omega | (simp only [List.length_cons, List.length_nil, true_and, and_true, nx_push, nx_put, nx_mark]; try omega)) only [go_sem, ↓reduceIte, Nat.reduceAdd, Nat.reduceMul, Nat.reduceSub, Int.reduceToNat, UInt8.reduceToNat, Nat.reduceLeDiff, Nat.reduceEqDiff, Nat.sub_zero, Int.add_zero, Int.zero_add, Nat.add_zero, Nat.zero_add, Nat.zero_mul, e0, e7, hc, h13, hl, hd, hd10]
          exact atQ 125 rfl (kr _ i (bad (by rw [bb]; simp only [crOK, decide_eq_true_eq]; omega)) rfl rfl rfl)
    · by_cases h9 : (c.toNat : Int) = 9
      · simp (disch := first | omega | (simp only [List.length_cons, List.length_nil, true_and, and_true, nx_push, nx_put, nx_mark]; try omega)) only [go_sem, ↓reduceIte, Nat.reduceAdd, Nat.reduceMul, Nat.reduceSub, Int.reduceToNat, UInt8.reduceToNat, Nat.reduceLeDiff, Nat.reduceEqDiff, Nat.sub_zero, Int.add_zero, Int.zero_add, Nat.add_zero, Nat.zero_add, Nat.zero_mul, e0, e7, hc, h13, h9]
        refine atW 125 rfl (good (.inr (.inr (bb.2 (by omega)))) _ rfl rfl)
      · by_cases h10 : (c.toNat : Int) = 10
        · simp (disch := first | omega | (simp only [List.length_cons, List.length_nil, true_and, and_true, nx_push, nx_put, nx_mark]; try omega)) only [go_sem, ↓reduceIte, Nat.reduceAdd, Nat.reduceMul, Nat.reduceSub, Int.reduceToNat, UInt8.reduceToNat, Nat.reduceLeDiff, Nat.reduceEqDiff, Nat.sub_zero, Int.add_zero, Int.zero_add, Nat.add_zero, Nat.zero_add, Nat.zero_mul, e0, e7, hc, h13, h9, h10]
          refine atW 125 rfl (good (.inr (.inl (by omega))) _ rfl rfl)
        · by_cases h32 : 32 ≤ (c.toNat : Int)
          · by_cases h126 : (c.toNat : Int) ≤ 126
            · simp (disch := first | omega | (simp only [List.length_cons, List.length_nil, true_and, and_true, nx_push, nx_put, nx_mark]; try omega)) only [go_sem, ↓reduceIte, Nat.reduceAdd, Nat.reduceMul, Nat.reduceSub, Int.reduceToNat, UInt8.reduceToNat, Nat.reduceLeDiff, Nat.reduceEqDiff, Nat.sub_zero, Int.add_zero, Int.zero_add, Nat.add_zero, Nat.zero_add, Nat.zero_mul, e0, e7, hc, h13, h9, h10, h32, h126]
              refine atW 125 rfl (good (.inr (.inr (bb.2 (by omega)))) _ rfl rfl)
            · simp (disch := first | omega | (simp only [List.length_cons, List.length_nil, true_and, and_true, nx_push, nx_put, nx_mark]; try omega)) only [go_sem, ↓reduceIte, Nat.reduceAdd, Nat.reduceMul, Nat.reduceSub, Int.reduceToNat, UInt8.reduceToNat, Nat.reduceLeDiff, Nat.reduceEqDiff, Nat.sub_zero, Int.add_zero, Int.zero_add, Nat.add_zero, Nat.zero_add, Nat.zero_mul, e0, e7, hc, h13, h9, h10, h32, h126]
              exact atQ 125 rfl (kr _ i (bad (by rw [bb]; omega)) rfl rfl rfl)
          · simp (disch := first | omega | (simp only [List.length_cons, List.length_nil, true_and, and_true, nx_push, nx_put, nx_mark]; try omega)) only [go_sem, ↓reduceIte, Nat.reduceAdd, Nat.reduceMul, Nat.reduceSub, Int.reduceToNat, UInt8.reduceToNat, Nat.reduceLeDiff, Nat.reduceEqDiff, Nat.sub_zero, Int.add_zero, Int.zero_add, Nat.add_zero, Nat.zero_add, Nat.zero_mul, e0, e7, hc, h13, h9, h10, h32]
            exact atQ 125 rfl (kr _ i (bad (by rw [bb]; omega)) rfl rfl rfl)
/-! ### Lines: the pieces -/
/-- The lines of a text from a place on: what stands in the piece so far, what follows. -/
def linesR (s : List UInt8) : List UInt8 → Nat → Nat → List LineT → List LineT
  | [], fr, i, acc => more1 acc (wordsF (trimEnd ((s.drop fr).take (i - fr)) [13]).length (trimEnd ((s.drop fr).take (i - fr)) [13]) fr)
  | c :: r, fr, i, acc => if c.toNat = 10 then linesR s r (i + 1) (i + 1) (more1 acc (wordsF (trimEnd ((s.drop fr).take (i - fr)) [13]).length (trimEnd ((s.drop fr).take (i - fr)) [13]) fr)) else linesR s r fr (i + 1) acc
end Go.Fw.Ro
end
section
/- The document's lines. -/
namespace Go.Fw.Ro
open Go Go.Fw Go.Fw.Sys
set_option maxRecDepth 100000
variable {H : Mem} {K : AV → Mem → Prop}
theorem trim_piece {s : List UInt8} {fr i : Nat} {c : UInt8} (h1 : fr < i) (h2 : i ≤ s.length) (hc : s[i - 1]? = some c) : trimEnd ((s.drop fr).take (i - fr)) [13] = if c.toNat = 13 then (s.drop fr).take (i - 1 - fr) else (s.drop fr).take (i - fr) := by
  have hlen : ((s.drop fr).take (i - fr)).length = i - fr := by simp; omega
  have hd : ((s.drop fr).take (i - fr)).drop (((s.drop fr).take (i - fr)).length - [(13 : UInt8)].length) = [c] := by
    rw [hlen, List.drop_take, List.drop_drop]
    have e : fr + (i - fr - [(13 : UInt8)].length) = i - 1 := by simp; omega
    rw [e, show i - fr - (i - fr - [(13 : UInt8)].length) = 1 by simp; omega]
    obtain ⟨h3, h4⟩ := List.getElem?_eq_some_iff.1 hc
    rw [List.drop_eq_getElem_cons h3, h4]; rfl
  unfold trimEnd
  unfold endsIn
  rw [hd]
  have h5 : decide ([(13 : UInt8)].length ≤ ((s.drop fr).take (i - fr)).length) = true := by rw [hlen]; exact decide_eq_true (by simp; omega)
  rw [h5]
  by_cases h : c = 13
  · subst h
    rw [if_pos (by simp), if_pos (by rfl), hlen, List.take_take]
    congr 1
    simp; omega
  · have h6 : ¬ c.toNat = 13 := fun e => h (UInt8.toNat_inj.1 (by rw [e]; rfl))
    rw [if_neg (by simp [h]), if_neg h6]
theorem RL2_piece {m : Nat} {s : List UInt8} {Q : Ex → Tr → Mem → Prop} (hs : s.length ≤ 1000000) {i fr : Nat} {f : Nat → AV} {H : Mem} {v : AV} {acc : List LineT} (hi : i ≤ s.length) (hend : i = s.length ∨ ∃ c, s[i]? = some c ∧ c.toNat = 10) (hfr : fr ≤ i) (hacc : acc.length ≤ i)
    (f0 : f 0 = .s s) (f9 : f 9 = v) (f10 : f 10 = .i .i64 fr) (f11 : f 11 = .i .i64 i) (hO : SlO 2 ty_api_Line Rline m H v acc) (hw : Wf H) (hmn : m ≤ H.next)
    (k : ∀ f' H' v', f' 0 = .s s → f' 9 = v' → f' 10 = .i .i64 ((i + 1 : Nat) : Int) → f' 11 = .i .i64 ((i + 1 : Nat) : Int) → SlO 2 ty_api_Line Rline m H' v' (more1 acc (wordsF (trimEnd ((s.drop fr).take (i - fr)) [13]).length (trimEnd ((s.drop fr).take (i - fr)) [13]) fr)) → Ext m H H' → @W S false (.loop lp_entailref1_Lines_2) (trO 125 f') H' ⟨Q⟩) : @W S false (.loop lp_entailref1_Lines_2) (trO 125 f) H ⟨Q⟩ := by
  generalize hT : trimEnd ((s.drop fr).take (i - fr)) [13] = T at k
  have hTl : T.length ≤ 1000000 := by
    have h1 := trimEnd_le ((s.drop fr).take (i - fr)) [13]
    rw [hT] at h1
    simp at h1
    omega
  have hcase : (∃ d c : UInt8, s[i]? = some d ∧ (d.toNat : Int) = 10 ∧ i < s.length ∧ fr < i ∧ s[((i : Int) - 1).toNat]? = some c ∧ (c.toNat : Int) = 13 ∧ List.take (((i : Int) - 1).toNat - fr) (List.drop fr s) = T) ∨
      (∃ d c : UInt8, s[i]? = some d ∧ (d.toNat : Int) = 10 ∧ i < s.length ∧ fr < i ∧ s[((i : Int) - 1).toNat]? = some c ∧ ¬ (c.toNat : Int) = 13 ∧ List.take (i - fr) (List.drop fr s) = T) ∨
      (∃ c : UInt8, i = s.length ∧ fr < i ∧ s[((i : Int) - 1).toNat]? = some c ∧ (c.toNat : Int) = 13 ∧ List.take (((i : Int) - 1).toNat - fr) (List.drop fr s) = T) ∨
      (∃ c : UInt8, i = s.length ∧ fr < i ∧ s[((i : Int) - 1).toNat]? = some c ∧ ¬ (c.toNat : Int) = 13 ∧ List.take (i - fr) (List.drop fr s) = T) ∨
      (∃ d : UInt8, s[i]? = some d ∧ (d.toNat : Int) = 10 ∧ i < s.length ∧ ¬ fr < i ∧ List.take (i - fr) (List.drop fr s) = T) ∨
      (i = s.length ∧ ¬ fr < i ∧ List.take (i - fr) (List.drop fr s) = T) := by
    by_cases hgt : fr < i
    · obtain ⟨c, hc⟩ : ∃ c, s[i - 1]? = some c := ⟨s[i - 1]'(by omega), by simp⟩
      have hc' : s[((i : Int) - 1).toNat]? = some c := by rw [show ((i : Int) - 1).toNat = i - 1 by omega]; exact hc
      have ht := trim_piece hgt hi hc
      rw [hT] at ht
      by_cases h13 : (c.toNat : Int) = 13
      · have hX : List.take (((i : Int) - 1).toNat - fr) (List.drop fr s) = T := by rw [ht, if_pos (by omega), show ((i : Int) - 1).toNat = i - 1 by omega]
        rcases hend with he | ⟨d, hd, hd10⟩
        · exact .inr (.inr (.inl ⟨c, he, hgt, hc', h13, hX⟩))
        · exact .inl ⟨d, c, hd, by omega, (List.getElem?_eq_some_iff.1 hd).1, hgt, hc', h13, hX⟩
      · have hX : List.take (i - fr) (List.drop fr s) = T := by rw [ht, if_neg (by omega)]
        rcases hend with he | ⟨d, hd, hd10⟩
        · exact .inr (.inr (.inr (.inl ⟨c, he, hgt, hc', h13, hX⟩)))
        · exact .inr (.inl ⟨d, c, hd, by omega, (List.getElem?_eq_some_iff.1 hd).1, hgt, hc', h13, hX⟩)
    · have hX : List.take (i - fr) (List.drop fr s) = T := by rw [← hT, show i - fr = 0 by omega]; rfl
      rcases hend with he | ⟨d, hd, hd10⟩
      · exact .inr (.inr (.inr (.inr (.inr ⟨he, hgt, hX⟩))))
      · exact .inr (.inr (.inr (.inr (.inl ⟨d, hd, by omega, (List.getElem?_eq_some_iff.1 hd).1, hgt, hX⟩))))
  clear hT hend
  rw [w_loop]
  unfold lp_entailref1_Lines_2
  rcases hcase with ⟨d, c, hd, hd10, hlt, hgt, hc', h13, hX⟩ | ⟨d, c, hd, hd10, hlt, hgt, hc', h13, hX⟩ | ⟨c, he, hgt, hc', h13, hX⟩ | ⟨c, he, hgt, hc', h13, hX⟩ | ⟨d, hd, hd10, hlt, hgt, hX⟩ | ⟨he, hgt, hX⟩
  all_goals first
    | simp (disch := first | omega | (simp only [List.length_cons, List.length_nil, true_and, and_true, nx_push, nx_put, nx_mark]; try omega)) only [go_sem, ↓reduceIte, Nat.reduceAdd, Nat.reduceMul, Nat.reduceSub, Int.reduceToNat, UInt8.reduceToNat, Nat.reduceLeDiff, Nat.reduceEqDiff, Nat.sub_zero, Int.add_zero, Int.zero_add, Nat.add_zero, Nat.zero_add, Nat.zero_mul, f0, f9, f10, f11, hd, hd10, hc', h13]
    | simp (disch := first | omega | (simp only [List.length_cons, List.length_nil, true_and, and_true, nx_push, nx_put, nx_mark]; try omega)) only [go_sem, ↓reduceIte, Nat.reduceAdd, Nat.reduceMul, Nat.reduceSub, Int.reduceToNat, UInt8.reduceToNat, Nat.reduceLeDiff, Nat.reduceEqDiff, Nat.sub_zero, Int.add_zero, Int.zero_add, Nat.add_zero, Nat.zero_add, Nat.zero_mul, f0, f9, f10, f11, hd, hd10]
    | simp (disch := first | omega | (simp only [List.length_cons, List.length_nil, true_and, and_true, nx_push, nx_put, nx_mark]; try omega)) only [go_sem, ↓reduceIte, Nat.reduceAdd, Nat.reduceMul, Nat.reduceSub, Int.reduceToNat, UInt8.reduceToNat, Nat.reduceLeDiff, Nat.reduceEqDiff, Nat.sub_zero, Int.add_zero, Int.zero_add, Nat.add_zero, Nat.zero_add, Nat.zero_mul, f0, f9, f10, f11, hc', h13]
    | simp (disch := first | omega | (simp only [List.length_cons, List.length_nil, true_and, and_true, nx_push, nx_put, nx_mark]; try omega)) only [go_sem, ↓reduceIte, Nat.reduceAdd, Nat.reduceMul, Nat.reduceSub, Int.reduceToNat, UInt8.reduceToNat, Nat.reduceLeDiff, Nat.reduceEqDiff, Nat.sub_zero, Int.add_zero, Int.zero_add, Nat.add_zero, Nat.zero_add, Nat.zero_mul, f0, f9, f10, f11]
  all_goals
    rw [hX]
    refine RW_run hTl (by omega) (by omega) hw (fun w H1 x1 x2 => ?_)
    have w1 : w.one = true := x2.one
    have wl := x2.len
    have n1 := x1.next
    generalize wordsF T.length T (fr : Int) = ws at x2 wl k
    cases ws with
    | nil =>
      simp (disch := first | omega | (simp only [List.length_cons, List.length_nil, true_and, and_true, nx_push, nx_put, nx_mark]; try omega)) only [go_sem, ↓reduceIte, Nat.reduceAdd, Nat.reduceMul, Nat.reduceSub, Int.reduceToNat, UInt8.reduceToNat, Nat.reduceLeDiff, Nat.reduceEqDiff, Nat.sub_zero, Int.add_zero, Int.zero_add, Nat.add_zero, Nat.zero_add, Nat.zero_mul, w1, wl]
      refine atW 125 rfl (k _ H1 v ?_ ?_ ?_ ?_ (hO.grow Rline_mono hw x1 (Nat.le_refl _)) (x1.low (by omega)))
      all_goals first | rfl | (show AV.i _ _ = _; congr 1; omega)
    | cons w0 ws =>
      obtain ⟨id, q, c0, y1, y2, y3, y4, y5, y6⟩ := (x2.mono Rword_mono sn_le).at_ (j := 0) (x := w0) rfl
      simp only [Rword] at y2
      subst y2
      have y7 : ldO (H1.get id) false 1 (q + 1) = some (.i .i64 w0.2) := y3 1 (by omega)
      have y1' : ixVS 2 w (.i .i64 0) = some (.p (some (id, q))) := y1
      have wc := cells_of_one w1
      simp (disch := first | omega | (simp only [List.length_cons, List.length_nil, true_and, and_true, nx_push, nx_put, nx_mark]; try omega)) only [go_sem, ↓reduceIte, Nat.reduceAdd, Nat.reduceMul, Nat.reduceSub, Int.reduceToNat, UInt8.reduceToNat, Nat.reduceLeDiff, Nat.reduceEqDiff, Nat.sub_zero, Int.add_zero, Int.zero_add, Nat.add_zero, Nat.zero_add, Nat.zero_mul, w1, wl, y1', y7, wc]
      refine onE_of (SlO.app1 (x := (w0.2, w0 :: ws)) Rline_mono hO hw hmn x1 rfl (by simp only [List.all_cons, w1]; rfl) ⟨w, rfl, x2⟩ (by omega) ?_ ?_ ?_) (fun v' H2 hh => ?_)
      · rfl
      · omega
      · omega
      obtain ⟨hO2, hE2, hL2⟩ := hh
      have v1 := hO2.one
      simp (disch := first | omega | (simp only [List.length_cons, List.length_nil, true_and, and_true, nx_push, nx_put, nx_mark]; try omega)) only [go_sem, ↓reduceIte, Nat.reduceAdd, Nat.reduceMul, Nat.reduceSub, Int.reduceToNat, UInt8.reduceToNat, Nat.reduceLeDiff, Nat.reduceEqDiff, Nat.sub_zero, Int.add_zero, Int.zero_add, Nat.add_zero, Nat.zero_add, Nat.zero_mul, v1]
      refine atW 125 rfl (k _ H2 v' ?_ ?_ ?_ ?_ hO2 hE2)
      all_goals first | rfl | (show AV.i _ _ = _; congr 1; omega)
end Go.Fw.Ro
end
section
/- The document's lines are the lines. -/
namespace Go.Fw.Ro
open Go Go.Fw Go.Fw.Sys
set_option maxRecDepth 100000
variable {H : Mem} {K : AV → Mem → Prop}
theorem trim_cons {c d : UInt8} {l : List UInt8} : trimEnd (c :: d :: l) [13] = c :: trimEnd (d :: l) [13] := by
  unfold trimEnd endsIn
  have e : (c :: d :: l).drop ((c :: d :: l).length - [(13 : UInt8)].length) = (d :: l).drop ((d :: l).length - [(13 : UInt8)].length) := by
    simp only [List.length_cons, List.length_nil]
    rw [show l.length + 1 + 1 - (0 + 1) = (l.length + 1 - (0 + 1)) + 1 by omega, List.drop_succ_cons]
  rw [e]
  have h1 : decide ([(13 : UInt8)].length ≤ (c :: d :: l).length) = true := by simp
  have h2 : decide ([(13 : UInt8)].length ≤ (d :: l).length) = true := by simp
  rw [h1, h2]
  split
  · simp only [List.length_cons, List.length_nil]
    rw [show l.length + 1 + 1 - (0 + 1) = (l.length + 1 - (0 + 1)) + 1 by omega, List.take_succ_cons]
  · rfl
theorem badAt_shift : ∀ (l : List UInt8) (k : Nat), badAt l (k + 1) = if badAt l k < 0 then -1 else badAt l k + 1
  | [], k => rfl
  | c :: l, k => by
    rw [badAt, badAt]
    by_cases h : badB c = true
    · rw [if_pos h, if_pos h, if_neg (by omega)]; omega
    · rw [if_neg h, if_neg h, badAt_shift l (k + 1)]
theorem bad10 : badB 10 = true := by decide
theorem bad13 : badB 13 = true := by decide
theorem bad_piece : ∀ (l rest : List UInt8) (i : Nat), (∀ c ∈ l, c.toNat ≠ 10) → (rest = [] ∨ ∃ t, rest = 10 :: t) → badR (l ++ rest) i = if 0 ≤ badAt (trimEnd l [13]) 0 then some (i + (badAt (trimEnd l [13]) 0).toNat) else badR rest (i + l.length)
  | [], rest, i, _, _ => by simp [trimEnd, endsIn, badAt]
  | [c], rest, i, h, hr => by
    have hc := h c (by simp)
    have cr : crOK rest = true := by
      rcases hr with rfl | ⟨t, rfl⟩ <;> rfl
    by_cases h13 : c = 13
    · subst h13
      have : trimEnd [(13 : UInt8)] [13] = [] := rfl
      rw [this, if_neg (by simp [badAt])]
      simp only [List.cons_append, List.nil_append]
      rw [badR, if_pos (.inl ⟨rfl, cr⟩)]; rfl
    · have ht : trimEnd [c] [13] = [c] := trim_ok (by simp; intro e; exact h13 (UInt8.toNat_inj.1 (by rw [e]; rfl)))
      rw [ht]
      simp only [List.cons_append, List.nil_append]
      rw [badR]
      have n13 : ¬ c.toNat = 13 := fun e => h13 (UInt8.toNat_inj.1 (by rw [e]; rfl))
      by_cases hb : badB c = true
      · rw [if_neg (by rintro (e | e | e); exact n13 e.1; exact hc e; rw [hb] at e; cases e), show badAt [c] 0 = 0 by rw [badAt, if_pos hb]; rfl, if_pos (by omega)]; simp
      · rw [if_pos (.inr (.inr (by simpa using hb))), show badAt [c] 0 = -1 by rw [badAt, if_neg hb]; rfl, if_neg (by omega)]; rfl
  | c :: d :: l, rest, i, h, hr => by
    have ih := bad_piece (d :: l) rest (i + 1) (fun u hu => h u (by simp only [List.mem_cons] at hu ⊢; exact .inr hu)) hr
    have hc := h c (by simp)
    have hd := h d (by simp)
    rw [trim_cons, badAt]
    simp only [List.cons_append] at ih ⊢
    rw [badR]
    have cr : crOK (d :: (l ++ rest)) = false := by simp [crOK, hd]
    by_cases hb : badB c = true
    · rw [if_neg (by rintro (e | e | e); rw [cr] at e; exact absurd e.2 (by simp); exact hc e; rw [hb] at e; cases e), if_pos hb, if_pos (by omega)]; simp
    · rw [if_pos (.inr (.inr (by simpa using hb))), if_neg hb, ih, badAt_shift]
      by_cases h0 : badAt (trimEnd (d :: l) [13]) 0 < 0
      · rw [if_pos h0, if_neg (by omega), if_neg (by omega)]
        simp only [List.length_cons]
        congr 1; omega
      · rw [if_neg h0, if_pos (by omega), if_pos (by omega)]
        congr 1; omega
/-- The lines of pieces. -/
def linesT : List (List UInt8) → Int → List LineT → List LineT
  | [], _, acc => acc
  | l :: r, p, acc => linesT r (p + l.length + 1) (more1 acc (wordsF (trimEnd l [13]).length (trimEnd l [13]) p))
theorem ix_no : ∀ (l : List UInt8), ixOf l 10 < 0 → ∀ c ∈ l, c.toNat ≠ 10
  | [], _, c, hc => by simp at hc
  | x :: l, h, c, hc => by
    rw [ixOf_cons] at h
    split at h
    · omega
    · rename_i hx
      have hg := ixOf_ge l 10
      have hl : ixOf l 10 < 0 := by
        split at h <;> omega
      rcases List.mem_cons.1 hc with rfl | hc
      · exact hx
      · exact ix_no l hl c hc
theorem ix_split : ∀ (l : List UInt8), 0 ≤ ixOf l 10 → l = l.take (ixOf l 10).toNat ++ 10 :: l.drop ((ixOf l 10).toNat + 1) ∧ ∀ c ∈ l.take (ixOf l 10).toNat, c.toNat ≠ 10
  | [], h => by simp [ixOf_nil] at h
  | x :: l, h => by
    rw [ixOf_cons] at h ⊢
    by_cases hx : x.toNat = 10
    · rw [if_pos hx]
      have : x = 10 := UInt8.toNat_inj.1 (by rw [hx]; rfl)
      subst this
      exact ⟨rfl, by simp⟩
    · rw [if_neg hx] at h ⊢
      have hg := ixOf_ge l 10
      by_cases hl : ixOf l 10 = -1
      · rw [if_pos hl] at h; omega
      · rw [if_neg hl] at h ⊢
        obtain ⟨e1, e2⟩ := ix_split l (by omega)
        have e3 : (ixOf l 10 + 1).toNat = (ixOf l 10).toNat + 1 := by omega
        rw [e3]
        refine ⟨?_, fun c hc => ?_⟩
        · rw [List.take_succ_cons, List.drop_succ_cons, List.cons_append, ← e1]
        · rw [List.take_succ_cons] at hc
          rcases List.mem_cons.1 hc with rfl | hc
          · exact hx
          · exact e2 c hc
theorem lines_bad : ∀ (n : Nat) (t : List UInt8) (i : Nat) (acc : List LineT), t.length ≤ n → linesG (piecesF n t) i acc = match badR t i with
    | some k => .error (k : Int)
    | none => .ok (linesT (piecesF n t) i acc)
  | 0, t, i, acc, h => by
    have : t = [] := List.eq_nil_of_length_eq_zero (by omega)
    subst this
    rfl
  | n + 1, t, i, acc, h => by
    rw [piecesF]
    by_cases hx : ixOf t 10 < 0
    · rw [if_pos hx]
      have hb := bad_piece t [] i (ix_no t hx) (.inl rfl)
      rw [List.append_nil] at hb
      rw [hb, linesG]
      by_cases h0 : 0 ≤ badAt (trimEnd t [13]) 0
      · rw [if_pos h0, if_pos h0]
        simp only
        congr 1; omega
      · rw [if_neg h0, if_neg h0]
        simp only [badR, linesG, linesT]
    · rw [if_neg hx]
      obtain ⟨e1, e2⟩ := ix_split t (by omega)
      have hlt := ixOf_lt t 10 (by omega)
      generalize hk : (ixOf t 10).toNat = k at *
      have hb := bad_piece (t.take k) (10 :: t.drop (k + 1)) i e2 (.inr ⟨_, rfl⟩)
      rw [← e1] at hb
      have hlen : (t.take k).length = k := by simp; omega
      have hd : (t.drop (k + 1)).length ≤ n := by simp; omega
      rw [hb, linesG]
      by_cases h0 : 0 ≤ badAt (trimEnd (t.take k) [13]) 0
      · rw [if_pos h0, if_pos h0]
        simp only
        congr 1; omega
      · rw [if_neg h0, if_neg h0, hlen]
        have hr : badR (10 :: t.drop (k + 1)) (i + k) = badR (t.drop (k + 1)) (i + k + 1) := by rw [badR, if_pos (.inr (.inl rfl))]
        rw [hr]
        have ih := lines_bad n (t.drop (k + 1)) (i + k + 1) (more1 acc (wordsF (trimEnd (t.take k) [13]).length (trimEnd (t.take k) [13]) i)) hd
        rw [show ((i + k + 1 : Nat) : Int) = (i : Int) + (k : Int) + 1 by omega] at ih
        rw [ih, linesT, hlen]
theorem linesR_eq {s : List UInt8} : ∀ (r pfx : List UInt8) (fr n : Nat) (acc : List LineT), s.drop fr = pfx ++ r → (∀ c ∈ pfx, c.toNat ≠ 10) → (pfx ++ r).length ≤ n → linesR s r fr (fr + pfx.length) acc = linesT (piecesF n (pfx ++ r)) fr acc
  | [], pfx, fr, n, acc, hs, hp, hn => by
    have hx : ixOf pfx 10 < 0 := by
      have hg := ixOf_ge pfx 10
      by_cases h : ixOf pfx 10 < 0
      · exact h
      · obtain ⟨e1, _⟩ := ix_split pfx (by omega)
        have : (10 : UInt8) ∈ pfx := by rw [e1]; simp
        exact absurd rfl (hp 10 this)
    rw [List.append_nil] at hs ⊢
    have e : piecesF n pfx = [pfx] := by
      cases n with
      | zero => rfl
      | succ n => rw [piecesF, if_pos hx]
    rw [e, linesR, hs, show fr + pfx.length - fr = pfx.length by omega, List.take_length]
    rfl
  | c :: r, pfx, fr, n, acc, hs, hp, hn => by
    rw [linesR]
    by_cases hc : c.toNat = 10
    · have : c = 10 := UInt8.toNat_inj.1 (by rw [hc]; rfl)
      subst this
      rw [if_pos hc, hs, show fr + pfx.length - fr = pfx.length by omega, List.take_left]
      simp only [List.length_append, List.length_cons] at hn
      obtain ⟨n, rfl⟩ : ∃ m, n = m + 1 := ⟨n - 1, by omega⟩
      have hi := ix_line pfx r hp
      have ih := linesR_eq r [] (fr + pfx.length + 1) n (more1 acc (wordsF (trimEnd pfx [13]).length (trimEnd pfx [13]) fr)) (by
        rw [List.nil_append, show fr + pfx.length + 1 = fr + (pfx ++ [10]).length by simp; omega, ← List.drop_drop, hs, show pfx ++ 10 :: r = (pfx ++ [10]) ++ r by simp, List.drop_left]) (by simp) (by simp; omega)
      simp only [List.length_nil, Nat.add_zero, List.nil_append] at ih
      rw [ih, piecesF, hi, if_neg (by omega)]
      simp only [Int.toNat_natCast]
      rw [List.take_left, show pfx.length + 1 = (pfx ++ [10]).length by simp, show pfx ++ 10 :: r = (pfx ++ [10]) ++ r by simp, List.drop_left, linesT]
      congr 1
    · rw [if_neg hc]
      have ih := linesR_eq r (pfx ++ [c]) fr n acc (by rw [hs]; simp) (fun u hu => by
        rcases List.mem_append.1 hu with hu | hu
        · exact hp u hu
        · simp at hu; subst hu; exact hc) (by simpa using hn)
      rw [List.length_append, List.length_cons, List.length_nil, List.append_assoc] at ih
      exact ih
/-- The document's lines. -/
def rlinesOf (s : List UInt8) : List LineT × Int × Int := if 200000 < s.length ∨ 5000 < cntOf s 10 then ([], 0, 8) else match badR s 0 with
  | some k => ([], k, 7)
  | none => (linesR s s 0 0 [], 0, 0)
theorem rlines_eq (s : List UInt8) : rlinesOf s = linesOf s := by
  unfold rlinesOf linesOf
  split
  · rfl
  · have h := lines_bad s.length s 0 [] (Nat.le_refl _)
    have h2 := linesR_eq (s := s) s [] 0 s.length [] rfl (by simp) (by simp)
    simp only [List.length_nil, Nat.add_zero, List.nil_append] at h2
    have h0 : ((0 : Nat) : Int) = 0 := rfl
    rw [h0] at h h2
    rw [h]
    cases badR s 0 with
    | some k => rfl
    | none => rw [h2]
end Go.Fw.Ro
end
section
/- The document's lines walked; numbers; keywords. -/
namespace Go.Fw.Ro
open Go Go.Fw Go.Fw.Sys
set_option maxRecDepth 100000
variable {H : Mem} {K : AV → Mem → Prop}
theorem RL2_loop {m : Nat} {s : List UInt8} {Q : Ex → Tr → Mem → Prop} (hs : s.length ≤ 1000000) : ∀ (r : List UInt8) (i fr : Nat) (f : Nat → AV) (H : Mem) (v : AV) (acc : List LineT), s.drop i = r → i + r.length = s.length → fr ≤ i → acc.length ≤ i →
    f 0 = .s s → f 9 = v → f 10 = .i .i64 fr → f 11 = .i .i64 i → SlO 2 ty_api_Line Rline m H v acc → Wf H → m ≤ H.next →
    (∀ f' H' v', f' 9 = v' → SlO 2 ty_api_Line Rline m H' v' (linesR s r fr i acc) → Ext m H H' → Q (.ex 4) (trO 125 f') H') → @W S false (.loop lp_entailref1_Lines_2) (trO 125 f) H ⟨Q⟩ := by
  intro r
  induction r with
  | nil =>
    intro i fr f H v acc h1 h2 h3 h4 f0 f9 f10 f11 hO hw hmn k
    simp at h2
    refine RL2_piece hs (by omega) (.inl h2) h3 h4 f0 f9 f10 f11 hO hw hmn (fun f' H' v' a0 a9 a10 a11 hO' hE' => ?_)
    rw [w_loop]
    unfold lp_entailref1_Lines_2
    have hgt : ¬ ((i + 1 : Nat) : Int) ≤ s.length := by omega
    simp (disch := first | omega | (simp only [List.length_cons, List.length_nil, true_and, and_true, nx_push, nx_put, nx_mark]; try omega)) only [go_sem, ↓reduceIte, Nat.reduceAdd, Nat.reduceMul, Nat.reduceSub, Int.reduceToNat, UInt8.reduceToNat, Nat.reduceLeDiff, Nat.reduceEqDiff, Nat.sub_zero, Int.add_zero, Int.zero_add, Nat.add_zero, Nat.zero_add, Nat.zero_mul, a0, a9, a10, a11]
    exact atQ 125 rfl (k _ H' v' rfl (by rw [linesR]; exact hO') hE')
  | cons c r ih =>
    intro i fr f H v acc h1 h2 h3 h4 f0 f9 f10 f11 hO hw hmn k
    simp at h2
    have hc : s[i]? = some c := by rw [← List.head?_drop, h1]; rfl
    have hr1 : s.drop (i + 1) = r := by rw [← List.drop_drop, h1]; rfl
    by_cases h10 : (c.toNat : Int) = 10
    · refine RL2_piece hs (by omega) (.inr ⟨c, hc, by omega⟩) h3 h4 f0 f9 f10 f11 hO hw hmn (fun f' H' v' a0 a9 a10 a11 hO' hE' => ?_)
      refine ih (i + 1) (i + 1) f' H' v' _ hr1 (by omega) (Nat.le_refl _) ?_ a0 a9 a10 a11 hO' hE'.wf (Nat.le_trans hmn hE'.next) (fun f2 H2 v2 b1 b2 b3 => k f2 H2 v2 b1 ?_ (hE'.trans b3 (Nat.le_refl _)))
      · have := more1_le acc (wordsF (trimEnd ((s.drop fr).take (i - fr)) [13]).length (trimEnd ((s.drop fr).take (i - fr)) [13]) fr)
        omega
      · rw [linesR, if_pos (by omega)]; exact b2
    · rw [w_loop]
      unfold lp_entailref1_Lines_2
      simp (disch := first | omega | (simp only [List.length_cons, List.length_nil, true_and, and_true, nx_push, nx_put, nx_mark]; try omega)) only [go_sem, ↓reduceIte, Nat.reduceAdd, Nat.reduceMul, Nat.reduceSub, Int.reduceToNat, UInt8.reduceToNat, Nat.reduceLeDiff, Nat.reduceEqDiff, Nat.sub_zero, Int.add_zero, Int.zero_add, Nat.add_zero, Nat.zero_add, Nat.zero_mul, f0, f9, f10, f11, hc, h10]
      refine atW 125 rfl (ih (i + 1) fr _ H v acc hr1 (by omega) (by omega) (by omega) rfl rfl rfl rfl hO hw hmn (fun f2 H2 v2 b1 b2 b3 => k f2 H2 v2 b1 (by rw [linesR, if_neg (by omega)]; exact b2) b3))
theorem RLines_run {s : List UInt8} (hs : s.length ≤ 1000000) (hw : Wf H) (h : ∀ v H', Ext H.next H H' → SlR 2 Rline (sn H.next H') v (linesOf s).1 → K (.tup [v, .i .i64 (linesOf s).2.1, .i .i64 (linesOf s).2.2]) H') : @R S (.f n_entailref1_Lines) [.s s] H ⟨K⟩ := by
  rw [← rlines_eq] at h
  refine run_fn2 rfl rfl ?_
  unfold bd_entailref1_Lines
  simp (disch := first | omega | (simp only [List.length_cons, List.length_nil, true_and, and_true, nx_push, nx_put, nx_mark]; try omega)) only [go_sem, ↓reduceIte, Nat.reduceAdd, Nat.reduceMul, Nat.reduceSub, Int.reduceToNat, UInt8.reduceToNat, Nat.reduceLeDiff, Nat.reduceEqDiff, Nat.sub_zero, Int.add_zero, Int.zero_add, Nat.add_zero, Nat.zero_add, Nat.zero_mul]
  refine atW 125 rfl (RL0_loop hs s 0 _ 0 rfl (by omega) (Nat.le_refl _) rfl rfl rfl (fun f' a0 a2 a3 a4 a5 => ?_))
  rw [Nat.zero_add] at a5
  by_cases h1 : 200000 < s.length
  · have e : rlinesOf s = ([], 0, 8) := if_pos (.inl h1)
    rw [e] at h
    simp (disch := first | omega | (simp only [List.length_cons, List.length_nil, true_and, and_true, nx_push, nx_put, nx_mark]; try omega)) only [go_sem, ↓reduceIte, Nat.reduceAdd, Nat.reduceMul, Nat.reduceSub, Int.reduceToNat, UInt8.reduceToNat, Nat.reduceLeDiff, Nat.reduceEqDiff, Nat.sub_zero, Int.add_zero, Int.zero_add, Nat.add_zero, Nat.zero_add, Nat.zero_mul, a0, a5]
    exact h _ _ (Ext.refl hw) SlR.nil
  · by_cases h2 : 5000 < cntOf s 10
    · have e : rlinesOf s = ([], 0, 8) := if_pos (.inr h2)
      rw [e] at h
      simp (disch := first | omega | (simp only [List.length_cons, List.length_nil, true_and, and_true, nx_push, nx_put, nx_mark]; try omega)) only [go_sem, ↓reduceIte, Nat.reduceAdd, Nat.reduceMul, Nat.reduceSub, Int.reduceToNat, UInt8.reduceToNat, Nat.reduceLeDiff, Nat.reduceEqDiff, Nat.sub_zero, Int.add_zero, Int.zero_add, Nat.add_zero, Nat.zero_add, Nat.zero_mul, a0, a5]
      exact h _ _ (Ext.refl hw) SlR.nil
    · simp (disch := first | omega | (simp only [List.length_cons, List.length_nil, true_and, and_true, nx_push, nx_put, nx_mark]; try omega)) only [go_sem, ↓reduceIte, Nat.reduceAdd, Nat.reduceMul, Nat.reduceSub, Int.reduceToNat, UInt8.reduceToNat, Nat.reduceLeDiff, Nat.reduceEqDiff, Nat.sub_zero, Int.add_zero, Int.zero_add, Nat.add_zero, Nat.zero_add, Nat.zero_mul, a0, a5]
      refine atW 125 rfl (RL1_loop hs s 0 _ rfl (by omega) rfl rfl (fun f2 k b c2 c3 c4 => ?_) (fun f2 b c0 => ?_))
      · have e : rlinesOf s = ([], (k : Int), 7) := by unfold rlinesOf; rw [if_neg (by omega), b]
        rw [e] at h
        simp (disch := first | omega | (simp only [List.length_cons, List.length_nil, true_and, and_true, nx_push, nx_put, nx_mark]; try omega)) only [go_sem, ↓reduceIte, Nat.reduceAdd, Nat.reduceMul, Nat.reduceSub, Int.reduceToNat, UInt8.reduceToNat, Nat.reduceLeDiff, Nat.reduceEqDiff, Nat.sub_zero, Int.add_zero, Int.zero_add, Nat.add_zero, Nat.zero_add, Nat.zero_mul, c2, c3, c4]
        exact h _ _ (Ext.refl hw) SlR.nil
      · have e : rlinesOf s = (linesR s s 0 0 [], 0, 0) := by unfold rlinesOf; rw [if_neg (by omega), b]
        rw [e] at h
        simp (disch := first | omega | (simp only [List.length_cons, List.length_nil, true_and, and_true, nx_push, nx_put, nx_mark]; try omega)) only [go_sem, ↓reduceIte, Nat.reduceAdd, Nat.reduceMul, Nat.reduceSub, Int.reduceToNat, UInt8.reduceToNat, Nat.reduceLeDiff, Nat.reduceEqDiff, Nat.sub_zero, Int.add_zero, Int.zero_add, Nat.add_zero, Nat.zero_add, Nat.zero_mul, c0]
        refine atW 125 rfl (RL2_loop (m := H.next) hs s 0 0 _ (H.mark []) .nsl [] rfl (by omega) (Nat.le_refl _) (by simp) rfl rfl rfl rfl SlO.nil (hw.mark []) (Nat.le_refl _) (fun f3 H' v' d9 hO' hE' => ?_))
        have hm : H'.marks = [] := hE'.marks
        simp (disch := first | omega | (simp only [List.length_cons, List.length_nil, true_and, and_true, nx_push, nx_put, nx_mark]; try omega)) only [go_sem, ↓reduceIte, Nat.reduceAdd, Nat.reduceMul, Nat.reduceSub, Int.reduceToNat, UInt8.reduceToNat, Nat.reduceLeDiff, Nat.reduceEqDiff, Nat.sub_zero, Int.add_zero, Int.zero_add, Nat.add_zero, Nat.zero_add, Nat.zero_mul, d9, hm]
        exact h _ _ (Ext.mark hE') (hO'.read Rline_mono)
end Go.Fw.Ro
end
section
/- The document's numbers and keywords. -/
namespace Go.Fw.Ro
open Go Go.Fw Go.Fw.Sys
set_option maxRecDepth 100000
variable {H : Mem} {K : AV → Mem → Prop}
def rnum (s : List UInt8) : Int := match numF s with
  | some n => n
  | none => 0
theorem rnum_ok {s : List UInt8} {n : Int} (h : numF s = some n) : rnum s = n ∧ n ≠ 0 := by
  refine ⟨by unfold rnum; rw [h], ?_⟩
  match s, h with
  | [a], h =>
    simp only [numF] at h
    split at h
    · rename_i c
      have ha := isD_toNat c.1
      simp only [Option.some.injEq] at h; omega
    · cases h
  | [a, b], h =>
    simp only [numF] at h
    split at h
    · rename_i c
      have ha := isD_toNat c.1
      have hb := isD_toNat c.2.1
      simp only [Option.some.injEq] at h; omega
    · cases h
  | [], h => simp [numF] at h
  | _ :: _ :: _ :: _, h => simp [numF] at h
theorem isD_iff (a : UInt8) : isD a = true ↔ (48 ≤ a.toNat ∧ a.toNat ≤ 57) := by simp [isD]
theorem rnumber_run {s : List UInt8} (hs : s.length ≤ 1000000) (h : K (.i .i64 (rnum s)) H) : @R S (.f n_entailref13_number) [.s s] H ⟨K⟩ := by
  refine run_fn2 rfl rfl ?_
  unfold bd_entailref13_number
  match s, hs, h with
  | [], hs, h =>
    simp (disch := first | omega | (simp only [List.length_cons, List.length_nil, true_and, and_true, nx_push, nx_put, nx_mark]; try omega)) only [go_sem, ↓reduceIte, Nat.reduceAdd, Nat.reduceMul, Nat.reduceSub, Int.reduceToNat, UInt8.reduceToNat, Nat.reduceLeDiff, Nat.reduceEqDiff, Nat.sub_zero, Int.add_zero, Int.zero_add, Nat.add_zero, Nat.zero_add, Nat.zero_mul]
    rw [w_loop]
    unfold lp_entailref13_number_0
    simp (disch := first | omega | (simp only [List.length_cons, List.length_nil, true_and, and_true, nx_push, nx_put, nx_mark]; try omega)) only [go_sem, ↓reduceIte, Nat.reduceAdd, Nat.reduceMul, Nat.reduceSub, Int.reduceToNat, UInt8.reduceToNat, Nat.reduceLeDiff, Nat.reduceEqDiff, Nat.sub_zero, Int.add_zero, Int.zero_add, Nat.add_zero, Nat.zero_add, Nat.zero_mul]
    exact h
  | a :: s, hs, h =>
    simp only [List.length_cons] at hs
    simp (disch := first | omega | (simp only [List.length_cons, List.length_nil, true_and, and_true, nx_push, nx_put, nx_mark]; try omega)) only [go_sem, ↓reduceIte, Nat.reduceAdd, Nat.reduceMul, Nat.reduceSub, Int.reduceToNat, UInt8.reduceToNat, Nat.reduceLeDiff, Nat.reduceEqDiff, Nat.sub_zero, Int.add_zero, Int.zero_add, Nat.add_zero, Nat.zero_add, Nat.zero_mul]
    rw [w_loop]
    unfold lp_entailref13_number_0
    have zero : ¬ (isD a = true ∧ a.toNat ≠ 48) → rnum (a :: s) = 0 := fun hn => by
      unfold rnum
      match s with
      | [] => simp only [numF]; rw [if_neg hn]
      | [b] => simp only [numF]; rw [if_neg (fun c => hn ⟨c.1, c.2.2⟩)]
      | _ :: _ :: _ => rfl
    rw [isD_iff] at zero
    by_cases h1 : (a.toNat : Int) < 48
    · rw [zero (by omega)] at h
      simp (disch := first | omega | (simp only [List.length_cons, List.length_nil, true_and, and_true, nx_push, nx_put, nx_mark]; try omega)) only [go_sem, ↓reduceIte, Nat.reduceAdd, Nat.reduceMul, Nat.reduceSub, Int.reduceToNat, UInt8.reduceToNat, Nat.reduceLeDiff, Nat.reduceEqDiff, Nat.sub_zero, Int.add_zero, Int.zero_add, Nat.add_zero, Nat.zero_add, Nat.zero_mul, h1]
      exact h
    · by_cases h2 : 57 < (a.toNat : Int)
      · rw [zero (by omega)] at h
        simp (disch := first | omega | (simp only [List.length_cons, List.length_nil, true_and, and_true, nx_push, nx_put, nx_mark]; try omega)) only [go_sem, ↓reduceIte, Nat.reduceAdd, Nat.reduceMul, Nat.reduceSub, Int.reduceToNat, UInt8.reduceToNat, Nat.reduceLeDiff, Nat.reduceEqDiff, Nat.sub_zero, Int.add_zero, Int.zero_add, Nat.add_zero, Nat.zero_add, Nat.zero_mul, h1, h2]
        exact h
      · have hda : isD a = true := (isD_iff a).2 ⟨by omega, by omega⟩
        by_cases h48 : (a.toNat : Int) = 48
        · rw [zero (by omega)] at h
          simp (disch := first | omega | (simp only [List.length_cons, List.length_nil, true_and, and_true, nx_push, nx_put, nx_mark]; try omega)) only [go_sem, ↓reduceIte, Nat.reduceAdd, Nat.reduceMul, Nat.reduceSub, Int.reduceToNat, UInt8.reduceToNat, Nat.reduceLeDiff, Nat.reduceEqDiff, Nat.sub_zero, Int.add_zero, Int.zero_add, Nat.add_zero, Nat.zero_add, Nat.zero_mul, h1, h2, h48]
          exact h
        · simp (disch := first | omega | (simp only [List.length_cons, List.length_nil, true_and, and_true, nx_push, nx_put, nx_mark]; try omega)) only [go_sem, ↓reduceIte, Nat.reduceAdd, Nat.reduceMul, Nat.reduceSub, Int.reduceToNat, UInt8.reduceToNat, Nat.reduceLeDiff, Nat.reduceEqDiff, Nat.sub_zero, Int.add_zero, Int.zero_add, Nat.add_zero, Nat.zero_add, Nat.zero_mul, h1, h2, h48]
          rw [w_loop]
          match s, hs, h with
          | [], hs, h =>
            simp (disch := first | omega | (simp only [List.length_cons, List.length_nil, true_and, and_true, nx_push, nx_put, nx_mark]; try omega)) only [go_sem, ↓reduceIte, Nat.reduceAdd, Nat.reduceMul, Nat.reduceSub, Int.reduceToNat, UInt8.reduceToNat, Nat.reduceLeDiff, Nat.reduceEqDiff, Nat.sub_zero, Int.add_zero, Int.zero_add, Nat.add_zero, Nat.zero_add, Nat.zero_mul]
            refine kI ?_ h
            unfold rnum
            simp only [numF]
            rw [if_pos ⟨hda, by omega⟩]
            simp only; omega
          | b :: s, hs, h =>
            simp only [List.length_cons] at hs
            have zero2 : ¬ (48 ≤ b.toNat ∧ b.toNat ≤ 57) → rnum (a :: b :: s) = 0 := fun hn => by
              rw [← isD_iff] at hn
              unfold rnum
              match s with
              | [] => simp only [numF]; rw [if_neg (fun c => hn c.2.1)]
              | _ :: _ => rfl
            by_cases g1 : (b.toNat : Int) < 48
            · rw [zero2 (by omega)] at h
              simp (disch := first | omega | (simp only [List.length_cons, List.length_nil, true_and, and_true, nx_push, nx_put, nx_mark]; try omega)) only [go_sem, ↓reduceIte, Nat.reduceAdd, Nat.reduceMul, Nat.reduceSub, Int.reduceToNat, UInt8.reduceToNat, Nat.reduceLeDiff, Nat.reduceEqDiff, Nat.sub_zero, Int.add_zero, Int.zero_add, Nat.add_zero, Nat.zero_add, Nat.zero_mul, h1, h2, h48, g1]
              exact h
            · by_cases g2 : 57 < (b.toNat : Int)
              · rw [zero2 (by omega)] at h
                simp (disch := first | omega | (simp only [List.length_cons, List.length_nil, true_and, and_true, nx_push, nx_put, nx_mark]; try omega)) only [go_sem, ↓reduceIte, Nat.reduceAdd, Nat.reduceMul, Nat.reduceSub, Int.reduceToNat, UInt8.reduceToNat, Nat.reduceLeDiff, Nat.reduceEqDiff, Nat.sub_zero, Int.add_zero, Int.zero_add, Nat.add_zero, Nat.zero_add, Nat.zero_mul, h1, h2, h48, g1, g2]
                exact h
              · have hdb : isD b = true := (isD_iff b).2 ⟨by omega, by omega⟩
                simp (disch := first | omega | (simp only [List.length_cons, List.length_nil, true_and, and_true, nx_push, nx_put, nx_mark]; try omega)) only [go_sem, ↓reduceIte, Nat.reduceAdd, Nat.reduceMul, Nat.reduceSub, Int.reduceToNat, UInt8.reduceToNat, Nat.reduceLeDiff, Nat.reduceEqDiff, Nat.sub_zero, Int.add_zero, Int.zero_add, Nat.add_zero, Nat.zero_add, Nat.zero_mul, h1, h2, h48, g1, g2]
                rw [w_loop]
                match s, hs, h with
                | [], hs, h =>
                  simp (disch := first | omega | (simp only [List.length_cons, List.length_nil, true_and, and_true, nx_push, nx_put, nx_mark]; try omega)) only [go_sem, ↓reduceIte, Nat.reduceAdd, Nat.reduceMul, Nat.reduceSub, Int.reduceToNat, UInt8.reduceToNat, Nat.reduceLeDiff, Nat.reduceEqDiff, Nat.sub_zero, Int.add_zero, Int.zero_add, Nat.add_zero, Nat.zero_add, Nat.zero_mul]
                  refine kI ?_ h
                  unfold rnum
                  simp only [numF]
                  rw [if_pos ⟨hda, hdb, by omega⟩]
                  simp only; omega
                | c :: s, hs, h =>
                  simp only [List.length_cons] at hs
                  have e : rnum (a :: b :: c :: s) = 0 := rfl
                  rw [e] at h
                  have x1 : (a :: b :: c :: s)[((1 : Int) + 1).toNat]? = some c := rfl
                  have x2 : (a :: b :: c :: s)[2]? = some c := rfl
                  by_cases k1 : (c.toNat : Int) < 48
                  · simp (disch := first | omega | (simp only [List.length_cons, List.length_nil, true_and, and_true, nx_push, nx_put, nx_mark]; try omega)) only [go_sem, ↓reduceIte, Nat.reduceAdd, Nat.reduceMul, Nat.reduceSub, Int.reduceToNat, UInt8.reduceToNat, Nat.reduceLeDiff, Nat.reduceEqDiff, Nat.sub_zero, Int.add_zero, Int.zero_add, Nat.add_zero, Nat.zero_add, Nat.zero_mul, k1, x1, x2, Int.reduceAdd]
                    exact h
                  · by_cases k2 : 57 < (c.toNat : Int)
                    · simp (disch := first | omega | (simp only [List.length_cons, List.length_nil, true_and, and_true, nx_push, nx_put, nx_mark]; try omega)) only [go_sem, ↓reduceIte, Nat.reduceAdd, Nat.reduceMul, Nat.reduceSub, Int.reduceToNat, UInt8.reduceToNat, Nat.reduceLeDiff, Nat.reduceEqDiff, Nat.sub_zero, Int.add_zero, Int.zero_add, Nat.add_zero, Nat.zero_add, Nat.zero_mul, k1, k2, x1, x2, Int.reduceAdd]
                      exact h
                    · simp (disch := first | omega | (simp only [List.length_cons, List.length_nil, true_and, and_true, nx_push, nx_put, nx_mark]; try omega)) only [go_sem, ↓reduceIte, Nat.reduceAdd, Nat.reduceMul, Nat.reduceSub, Int.reduceToNat, UInt8.reduceToNat, Nat.reduceLeDiff, Nat.reduceEqDiff, Nat.sub_zero, Int.add_zero, Int.zero_add, Nat.add_zero, Nat.zero_add, Nat.zero_mul, k1, k2, x1, x2, Int.reduceAdd]
                      exact h
end Go.Fw.Ro
end
section
/- The document's fact of a line: the keyword. -/
namespace Go.Fw.Ro
open Go Go.Fw Go.Fw.Sys
set_option maxRecDepth 100000
variable {H : Mem} {K : AV → Mem → Prop}
/-- Nothing but one object is other than it was. -/
structure Only (o : Nat) (H H' : Mem) : Prop where
  next : H'.next = H.next
  marks : H'.marks = H.marks
  get : ∀ id, id ≠ o → H'.get id = H.get id
  wf : Wf H'
theorem Only.refl {o : Nat} (w : Wf H) : Only o H H := ⟨rfl, rfl, fun _ _ => rfl, w⟩
theorem Only.put {o : Nat} {H' : Mem} (h : Only o H H') (ho : o < H'.next) (x : AO) : Only o H (H'.put o x) := ⟨h.next, h.marks, fun id hd => by rw [Mem.get_put, if_neg hd, h.get id hd], h.wf.put ho _⟩
def kws : List (List UInt8) := [[], [117, 115, 101, 114], [114, 111, 108, 101], [105, 110, 104, 101, 114, 105, 116], [97, 115, 115, 105, 103, 110], [103, 114, 97, 110, 116], [115, 115, 100], [100, 115, 100], [115, 101, 115, 115, 105, 111, 110]]
def kindL (t : List UInt8) : List (List UInt8) → Nat → Int → Int
  | [], _, cur => cur
  | w :: r, k, cur => kindL t r (k + 1) (if w = t then (k : Int) else cur)
theorem RF0_loop {at_ : Int} {wv u wds : AV} {x : FactT} {w0 : List UInt8 × Int} {ws : List (List UInt8 × Int)} {bx o : Nat} {Q : Ex → Tr → Mem → Prop} : ∀ (r : List (List UInt8)) (k : Nat) (f : Nat → AV) (H0 H : Mem) (cur : Int), kws.drop k = r → k + r.length = 9 → Only o H0 H → o < H0.next → bx ≠ o →
    (∀ H', Only o H0 H' → SlR 1 Rs H'.get wds kws ∧ SlR 2 Rword H'.get wv (w0 :: ws)) → H0.get bx = .mem [.i .i64 at_, wv] 0 ty_api_Line true 0 → H.get o = .mem (factC { x with kind := cur } u) 0 ty_api_Fact true 0 → u.one = true →
    f 1 = .p (some (bx, 0)) → f 5 = .p (some (o, 0)) → f 6 = wds → f 7 = .i .i64 k →
    (∀ f' H', f' 1 = f 1 → f' 2 = f 2 → f' 5 = f 5 → Only o H0 H' → H'.get o = .mem (factC { x with kind := kindL w0.1 r k cur } u) 0 ty_api_Fact true 0 → Q (.ex 0) (trO 167 f') H') → @W S false (.loop lp_entailref13_Fact_0) (trO 167 f) H ⟨Q⟩ := by
  intro r
  induction r with
  | nil =>
    intro k f H0 H cur h1 h2 hO ho hb hsl hbx hf hu f1 f5 f6 f7 q
    simp at h2
    have l1 := (hsl H hO).1.len
    have l9 : lenVS wds = some (.i .i64 9) := l1
    rw [w_loop]
    unfold lp_entailref13_Fact_0
    simp (disch := first | omega | (simp only [List.length_cons, List.length_nil, true_and, and_true, nx_push, nx_put, nx_mark]; try omega)) only [go_sem, ↓reduceIte, Nat.reduceAdd, Nat.reduceMul, Nat.reduceSub, Int.reduceToNat, UInt8.reduceToNat, Nat.reduceLeDiff, Nat.reduceEqDiff, Nat.sub_zero, Int.add_zero, Int.zero_add, Nat.add_zero, Nat.zero_add, Nat.zero_mul, f1, f5, f6, f7, l9, h2]
    exact atQ 167 rfl (q _ H f1.symm rfl f5.symm hO hf)
  | cons w r ih =>
    intro k f H0 H cur h1 h2 hO ho hb hsl hbx hf hu f1 f5 f6 f7 q
    simp at h2
    have l1 := (hsl H hO).1.len
    have l9 : lenVS wds = some (.i .i64 9) := l1
    have hx : kws[k]? = some w := by rw [← List.head?_drop, h1]; rfl
    have hr1 : kws.drop (k + 1) = r := by rw [← List.drop_drop, h1]; rfl
    obtain ⟨id, p, c, y1, y2, y3, y4, y5, y6⟩ := (hsl H hO).1.at_ hx
    obtain ⟨jd, q2, d, z1, z2, z3, z4, z5, z6⟩ := (hsl H hO).2.at_ (j := 0) (x := w0) rfl
    simp only [Rs] at y2
    simp only [Rword] at z2
    subst y2 z2
    have y7 : ldO (H.get id) false 1 p = some (.s w) := y3 0 (by omega)
    have z7 : ldO (H.get jd) false 1 (q2 + 0) = some (.s w0.1) := z3 0 (by omega)
    have z7' : ldO (H.get jd) false 1 q2 = some (.s w0.1) := z7
    have z1' : ixVS 2 wv (.i .i64 0) = some (.p (some (jd, q2))) := z1
    have hbx' : H.get bx = .mem [.i .i64 at_, wv] 0 ty_api_Line true 0 := by rw [hO.get bx hb]; exact hbx
    rw [w_loop]
    unfold lp_entailref13_Fact_0
    simp (disch := first | omega | (simp only [List.length_cons, List.length_nil, true_and, and_true, nx_push, nx_put, nx_mark]; try omega)) only [go_sem, ↓reduceIte, Nat.reduceAdd, Nat.reduceMul, Nat.reduceSub, Int.reduceToNat, UInt8.reduceToNat, Nat.reduceLeDiff, Nat.reduceEqDiff, Nat.sub_zero, Int.add_zero, Int.zero_add, Nat.add_zero, Nat.zero_add, Nat.zero_mul, f1, f5, f6, f7, l9]
    refine w_dregA rfl rfl ?_
    simp (disch := first | omega | (simp only [List.length_cons, List.length_nil, true_and, and_true, nx_push, nx_put, nx_mark]; try omega)) only [go_sem, ↓reduceIte, Nat.reduceAdd, Nat.reduceMul, Nat.reduceSub, Int.reduceToNat, UInt8.reduceToNat, Nat.reduceLeDiff, Nat.reduceEqDiff, Nat.sub_zero, Int.add_zero, Int.zero_add, Nat.add_zero, Nat.zero_add, Nat.zero_mul, f1, f5, f6, f7, y1, y7, hbx', z1', z7, z7']
    have hk : kindL w0.1 (w :: r) k cur = kindL w0.1 r (k + 1) (if w = w0.1 then (k : Int) else cur) := rfl
    have hol : o < H.next := by rw [hO.next]; exact ho
    simp only [factC] at hf
    by_cases hw : w = w0.1
    · rw [if_pos hw] at hk
      simp (disch := first | omega | (simp only [List.length_cons, List.length_nil, true_and, and_true, nx_push, nx_put, nx_mark]; try omega)) only [go_sem, ↓reduceIte, Nat.reduceAdd, Nat.reduceMul, Nat.reduceSub, Int.reduceToNat, UInt8.reduceToNat, Nat.reduceLeDiff, Nat.reduceEqDiff, Nat.sub_zero, Int.add_zero, Int.zero_add, Nat.add_zero, Nat.zero_add, Nat.zero_mul, hw, hf]
      refine atW 167 rfl (ih (k + 1) _ H0 _ (k : Int) hr1 (by omega) (hO.put hol _) ho hb hsl hbx (by rw [Mem.get_put, if_pos rfl]; rfl) hu rfl rfl rfl rfl (fun f' H' a1 a2 a5 a b => q f' H' (a1.trans f1.symm) a2 (a5.trans f5.symm) a (by rw [hk]; exact b)))
    · rw [if_neg hw] at hk
      simp (disch := first | omega | (simp only [List.length_cons, List.length_nil, true_and, and_true, nx_push, nx_put, nx_mark]; try omega)) only [go_sem, ↓reduceIte, Nat.reduceAdd, Nat.reduceMul, Nat.reduceSub, Int.reduceToNat, UInt8.reduceToNat, Nat.reduceLeDiff, Nat.reduceEqDiff, Nat.sub_zero, Int.add_zero, Int.zero_add, Nat.add_zero, Nat.zero_add, Nat.zero_mul, hw]
      refine atW 167 rfl (ih (k + 1) _ H0 H cur hr1 (by omega) hO ho hb hsl hbx hf hu rfl rfl rfl rfl (fun f' H' a1 a2 a5 a b => q f' H' (a1.trans f1.symm) a2 (a5.trans f5.symm) a (by rw [hk]; exact b)))
theorem kind_form (t : List UInt8) : kindL t (kws.drop 1) 1 0 = match formF t with
    | some F => F.kind
    | none => 0 := by
  unfold formF
  by_cases h1 : t = [117, 115, 101, 114]
  · subst h1; decide
  by_cases h2 : t = [114, 111, 108, 101]
  · subst h2; decide
  by_cases h3 : t = [105, 110, 104, 101, 114, 105, 116]
  · subst h3; decide
  by_cases h4 : t = [97, 115, 115, 105, 103, 110]
  · subst h4; decide
  by_cases h5 : t = [103, 114, 97, 110, 116]
  · subst h5; decide
  by_cases h6 : t = [115, 115, 100]
  · subst h6; decide
  by_cases h7 : t = [100, 115, 100]
  · subst h7; decide
  by_cases h8 : t = [115, 101, 115, 115, 105, 111, 110]
  · subst h8; decide
  simp only [h1, h2, h3, h4, h5, h6, h7, h8, if_false, kws, List.drop_succ_cons, List.drop_zero, kindL, eq_comm (b := t)]
/-- The names of the words behind the keyword, and the number; or where a word is none. -/
def rfill (num : Bool) : Nat → List (List UInt8 × Int) → List (List UInt8) → Int → Except (Int × Int) (List (List UInt8) × Int)
  | _, [], ns, N => .ok (ns, N)
  | i, w :: r, ns, N => if i = 2 ∧ num = true then (if rnum w.1 = 0 then .error (w.2, 9) else rfill num (i + 1) r ns (rnum w.1)) else if isName w.1 = true then rfill num (i + 1) r (ns ++ [w.1]) N else .error (w.2, 15)
end Go.Fw.Ro
end
section
/- The document's fact of a line: the names and the number. -/
namespace Go.Fw.Ro
open Go Go.Fw Go.Fw.Sys
set_option maxRecDepth 100000
variable {H : Mem} {K : AV → Mem → Prop}
theorem RF1_loop {at_ : Int} {wv u : AV} {x : FactT} {al : List (List UInt8 × Int)} {m n1 bx o rs : Nat} {H0 : Mem} {Q : Ex → Tr → Mem → Prop} (hal : al.length ≤ 1000000) (hw1 : ∀ w ∈ al, w.1.length ≤ 1000000) (hu : u.one = true)
    (hv : ∀ H', Ext m H0 H' → SlR 2 Rword H'.get wv al) (hm : m ≤ bx ∧ m ≤ o ∧ m ≤ rs) (hn1 : bx < n1 ∧ o < n1 ∧ rs < n1) (hne : bx ≠ o ∧ bx ≠ rs ∧ o ≠ rs) :
    ∀ (r : List (List UInt8 × Int)) (i : Nat) (f : Nat → AV) (H : Mem) (v : AV) (ns : List (List UInt8)) (N : Int), al.drop i = r → i + r.length = al.length → 1 ≤ i → Ext m H0 H → n1 ≤ H.next → ns.length ≤ i →
    H.get bx = .mem [.i .i64 at_, wv] 0 ty_api_Line true 0 → H.get o = .mem (factC { x with N := N } u) 0 ty_api_Fact true 0 → H.get rs = .mem (factC fact0 .nsl) 0 ty_api_Fact true 0 → SlO 1 ty_string Rs n1 H v ns →
    f 1 = .p (some (bx, 0)) → f 2 = .p (some (rs, 0)) → f 5 = .p (some (o, 0)) → f 8 = .i .i64 al.length → f 10 = v → f 11 = .i .i64 i →
    (∀ q e f' H', rfill (decide (x.kind = 6 ∨ x.kind = 7)) i r ns N = .error (q, e) → f' 2 = .p (some (rs, 0)) → f' 3 = .i .i64 q → f' 4 = .i .i64 e → Ext m H0 H' → H'.get rs = .mem (factC fact0 .nsl) 0 ty_api_Fact true 0 → Q .rt (trO 167 f') H') →
    (∀ ns' N' f' H' v', rfill (decide (x.kind = 6 ∨ x.kind = 7)) i r ns N = .ok (ns', N') → f' 2 = .p (some (rs, 0)) → f' 5 = .p (some (o, 0)) → f' 10 = v' → Ext m H0 H' → n1 ≤ H'.next → H'.get o = .mem (factC { x with N := N' } u) 0 ty_api_Fact true 0 → H'.get rs = .mem (factC fact0 .nsl) 0 ty_api_Fact true 0 → SlO 1 ty_string Rs n1 H' v' ns' → Q (.ex 3) (trO 167 f') H') →
    @W S false (.loop lp_entailref13_Fact_1) (trO 167 f) H ⟨Q⟩ := by
  intro r
  induction r with
  | nil =>
    intro i f H v ns N h1 h2 h3 hE hn hns hbx ho hrs hO f1 f2 f5 f8 f10 f11 ke k
    simp at h2
    rw [w_loop]
    unfold lp_entailref13_Fact_1
    simp (disch := first | omega | (simp only [List.length_cons, List.length_nil, true_and, and_true, nx_push, nx_put, nx_mark]; try omega)) only [go_sem, ↓reduceIte, Nat.reduceAdd, Nat.reduceMul, Nat.reduceSub, Int.reduceToNat, UInt8.reduceToNat, Nat.reduceLeDiff, Nat.reduceEqDiff, Nat.sub_zero, Int.add_zero, Int.zero_add, Nat.add_zero, Nat.zero_add, Nat.zero_mul, f1, f2, f5, f8, f10, f11, h2]
    exact atQ 167 rfl (k ns N _ H v rfl rfl rfl rfl hE hn ho hrs hO)
  | cons w r ih =>
    intro i f H v ns N h1 h2 h3 hE hn hns hbx ho hrs hO f1 f2 f5 f8 f10 f11 ke k
    simp at h2
    have hx : al[i]? = some w := by rw [← List.head?_drop, h1]; rfl
    have hr1 : al.drop (i + 1) = r := by rw [← List.drop_drop, h1]; rfl
    have hwl := hw1 w (List.mem_of_getElem? hx)
    obtain ⟨jd, q2, d, z1, z2, z3, z4, z5, z6⟩ := (hv H hE).at_ hx
    simp only [Rword] at z2
    subst z2
    have hjd := hE.wf jd z6
    simp only [factC] at ho
    rw [w_loop]
    unfold lp_entailref13_Fact_1
    simp (disch := first | omega | (simp only [List.length_cons, List.length_nil, true_and, and_true, nx_push, nx_put, nx_mark]; try omega)) only [go_sem, ↓reduceIte, Nat.reduceAdd, Nat.reduceMul, Nat.reduceSub, Int.reduceToNat, UInt8.reduceToNat, Nat.reduceLeDiff, Nat.reduceEqDiff, Nat.sub_zero, Int.add_zero, Int.zero_add, Nat.add_zero, Nat.zero_add, Nat.zero_mul, f1, f2, f5, f8, f10, f11, hbx, z1, z4]
    generalize hH1 : ((H.push (AO.mem [AV.s [], AV.i IntKind.i64 0] 0 ty_api_Word true 0)).put H.next (AO.mem [AV.s w.1, AV.i IntKind.i64 w.2] 0 ty_api_Word true 0)) = H1
    have x1 : Ext H.next H H1 := by rw [← hH1]; exact ((Ext.refl hE.wf).push _ (Nat.le_refl _)).put (Nat.le_refl _) (by simp) _
    have hn2 : H1.next = H.next + 1 := by rw [← hH1]; rfl
    have a12 : H1.get H.next = .mem [.s w.1, .i .i64 w.2] 0 ty_api_Word true 0 := by rw [← hH1]; simp (disch := first | omega | (simp only [List.length_cons, List.length_nil, true_and, and_true, nx_push, nx_put, nx_mark]; try omega)) only [go_sem, ↓reduceIte, Nat.reduceAdd, Nat.reduceMul, Nat.reduceSub, Int.reduceToNat, UInt8.reduceToNat, Nat.reduceLeDiff, Nat.reduceEqDiff, Nat.sub_zero, Int.add_zero, Int.zero_add, Nat.add_zero, Nat.zero_add, Nat.zero_mul]
    clear hH1
    have n0 := hE.next
    have mH : m ≤ H.next := by omega
    have hE1 := hE.trans x1 mH
    have b1 := x1.of hbx (by omega)
    have o1 := x1.of ho (by omega)
    have r1 := x1.of hrs (by omega)
    have hO1 : SlO 1 ty_string Rs n1 H1 v ns := hO.grow Rs_mono hE.wf x1 (Nat.le_refl _)
    simp only [factC, fact0] at r1
    by_cases hA : (i : Int) = 2 ∧ (x.kind = 6 ∨ x.kind = 7)
    · obtain ⟨hi, hk⟩ := hA
      have hi2 : i = 2 ∧ decide (x.kind = 6 ∨ x.kind = 7) = true := ⟨by omega, by simpa using hk⟩
      have step : rnum w.1 ≠ 0 → ∀ (f' : Nat → AV) (H' : Mem), H'.next = H1.next → Ext m H0 H' → H'.get bx = .mem [.i .i64 at_, wv] 0 ty_api_Line true 0 → H'.get o = .mem (factC { x with N := rnum w.1 } u) 0 ty_api_Fact true 0 → H'.get rs = .mem (factC fact0 .nsl) 0 ty_api_Fact true 0 → SlO 1 ty_string Rs n1 H' v ns →
          f' 1 = .p (some (bx, 0)) → f' 2 = .p (some (rs, 0)) → f' 5 = .p (some (o, 0)) → f' 8 = .i .i64 al.length → f' 10 = v → f' 11 = .i .i64 ((i + 1 : Nat) : Int) → @W S false (.loop lp_entailref13_Fact_1) (trO 167 f') H' ⟨Q⟩ := fun h0 f' H' hn' hE' g1 g2 g3 g4 a1 a2 a5 a8 a10 a11 =>
        ih (i + 1) f' H' v ns (rnum w.1) hr1 (by omega) (by omega) hE' (by omega) (by omega) g1 g2 g3 g4 a1 a2 a5 a8 a10 a11 (fun q e f2 H2 b => ke q e f2 H2 (by rw [rfill, if_pos hi2, if_neg h0]; exact b)) (fun ns' N' f2 H2 v2 b => k ns' N' f2 H2 v2 (by rw [rfill, if_pos hi2, if_neg h0]; exact b))
      have o2 : ∀ z, ((H1.put o z).get o) = z := fun z => by rw [Mem.get_put, if_pos rfl]
      rcases hk with hk | hk
      all_goals
        simp (disch := first | omega | (simp only [List.length_cons, List.length_nil, true_and, and_true, nx_push, nx_put, nx_mark]; try omega)) only [go_sem, ↓reduceIte, Nat.reduceAdd, Nat.reduceMul, Nat.reduceSub, Int.reduceToNat, UInt8.reduceToNat, Nat.reduceLeDiff, Nat.reduceEqDiff, Nat.sub_zero, Int.add_zero, Int.zero_add, Nat.add_zero, Nat.zero_add, Nat.zero_mul, hi, hk, o1, a12]
        refine rnumber_run hwl ?_
        simp (disch := first | omega | (simp only [List.length_cons, List.length_nil, true_and, and_true, nx_push, nx_put, nx_mark]; try omega)) only [go_sem, ↓reduceIte, Nat.reduceAdd, Nat.reduceMul, Nat.reduceSub, Int.reduceToNat, UInt8.reduceToNat, Nat.reduceLeDiff, Nat.reduceEqDiff, Nat.sub_zero, Int.add_zero, Int.zero_add, Nat.add_zero, Nat.zero_add, Nat.zero_mul, o1, a12]
        by_cases h0 : rnum w.1 = 0
        · simp (disch := first | omega | (simp only [List.length_cons, List.length_nil, true_and, and_true, nx_push, nx_put, nx_mark]; try omega)) only [go_sem, ↓reduceIte, Nat.reduceAdd, Nat.reduceMul, Nat.reduceSub, Int.reduceToNat, UInt8.reduceToNat, Nat.reduceLeDiff, Nat.reduceEqDiff, Nat.sub_zero, Int.add_zero, Int.zero_add, Nat.add_zero, Nat.zero_add, Nat.zero_mul, h0]
          refine w_dregA rfl rfl ?_
          have a13 : ∀ z, (H1.put o z).get H.next = .mem [.s w.1, .i .i64 w.2] 0 ty_api_Word true 0 := fun z => by rw [Mem.get_put, if_neg (by omega)]; exact a12
          have r13 : ∀ z, (H1.put o z).get rs = H1.get rs := fun z => by rw [Mem.get_put, if_neg (Ne.symm hne.2.2)]
          simp (disch := first | omega | (simp only [List.length_cons, List.length_nil, true_and, and_true, nx_push, nx_put, nx_mark]; try omega)) only [go_sem, ↓reduceIte, Nat.reduceAdd, Nat.reduceMul, Nat.reduceSub, Int.reduceToNat, UInt8.reduceToNat, Nat.reduceLeDiff, Nat.reduceEqDiff, Nat.sub_zero, Int.add_zero, Int.zero_add, Nat.add_zero, Nat.zero_add, Nat.zero_mul, a13, r13, r1]
          exact atQ 167 rfl (ke w.2 9 _ _ (by rw [rfill, if_pos hi2, if_pos h0]) rfl rfl rfl ((hE1.put hm.2.1 (by omega) _).put hm.2.2 (by simp only [nx_put]; omega) _) (by rw [Mem.get_put, if_pos rfl]; rfl))
        · simp (disch := first | omega | (simp only [List.length_cons, List.length_nil, true_and, and_true, nx_push, nx_put, nx_mark]; try omega)) only [go_sem, ↓reduceIte, Nat.reduceAdd, Nat.reduceMul, Nat.reduceSub, Int.reduceToNat, UInt8.reduceToNat, Nat.reduceLeDiff, Nat.reduceEqDiff, Nat.sub_zero, Int.add_zero, Int.zero_add, Nat.add_zero, Nat.zero_add, Nat.zero_mul, h0]
          refine atW 167 rfl (step h0 _ _ ?_ (hE1.put hm.2.1 (by omega) _) ?_ ?_ ?_ (hO1.put (by omega)) ?_ ?_ ?_ ?_ ?_ ?_)
          all_goals first
            | rfl
            | (rw [Mem.get_put, if_neg hne.1]; exact b1)
            | (rw [Mem.get_put, if_pos rfl]; rfl)
            | (rw [Mem.get_put, if_neg (Ne.symm hne.2.2)]; exact r1)
            | (show AV.i _ _ = _; congr 1; omega)
    · have hB : ¬ (i = 2 ∧ decide (x.kind = 6 ∨ x.kind = 7) = true) := fun c => hA ⟨by omega, by simpa using c.2⟩
      have hcase : ¬ (i : Int) = 2 ∨ ((i : Int) = 2 ∧ ¬ x.kind = 6 ∧ ¬ x.kind = 7) := by
        by_cases h2 : (i : Int) = 2
        · exact .inr ⟨h2, fun e => hA ⟨h2, .inl e⟩, fun e => hA ⟨h2, .inr e⟩⟩
        · exact .inl h2
      rcases hcase with hi | ⟨hi, hk1, hk2⟩
      all_goals first
        | simp (disch := first | omega | (simp only [List.length_cons, List.length_nil, true_and, and_true, nx_push, nx_put, nx_mark]; try omega)) only [go_sem, ↓reduceIte, Nat.reduceAdd, Nat.reduceMul, Nat.reduceSub, Int.reduceToNat, UInt8.reduceToNat, Nat.reduceLeDiff, Nat.reduceEqDiff, Nat.sub_zero, Int.add_zero, Int.zero_add, Nat.add_zero, Nat.zero_add, Nat.zero_mul, hi, hk1, hk2, o1, a12]
        | simp (disch := first | omega | (simp only [List.length_cons, List.length_nil, true_and, and_true, nx_push, nx_put, nx_mark]; try omega)) only [go_sem, ↓reduceIte, Nat.reduceAdd, Nat.reduceMul, Nat.reduceSub, Int.reduceToNat, UInt8.reduceToNat, Nat.reduceLeDiff, Nat.reduceEqDiff, Nat.sub_zero, Int.add_zero, Int.zero_add, Nat.add_zero, Nat.zero_add, Nat.zero_mul, hi, o1, a12]
      all_goals
        cases hnm : isName w.1 with
        | true =>
          simp (disch := first | omega | (simp only [List.length_cons, List.length_nil, true_and, and_true, nx_push, nx_put, nx_mark]; try omega)) only [go_sem, ↓reduceIte, Nat.reduceAdd, Nat.reduceMul, Nat.reduceSub, Int.reduceToNat, UInt8.reduceToNat, Nat.reduceLeDiff, Nat.reduceEqDiff, Nat.sub_zero, Int.add_zero, Int.zero_add, Nat.add_zero, Nat.zero_add, Nat.zero_mul, a12]
          refine onE_of (SlO.app1 (x := w.1) Rs_mono hO1 x1.wf (by omega) (Ext.refl x1.wf) rfl rfl rfl (by omega) ?_ ?_ ?_) (fun v' H2 hh => ?_)
          · rfl
          · omega
          · omega
          obtain ⟨hO2, hE2, hL2⟩ := hh
          simp (disch := first | omega | (simp only [List.length_cons, List.length_nil, true_and, and_true, nx_push, nx_put, nx_mark]; try omega)) only [go_sem, ↓reduceIte, Nat.reduceAdd, Nat.reduceMul, Nat.reduceSub, Int.reduceToNat, UInt8.reduceToNat, Nat.reduceLeDiff, Nat.reduceEqDiff, Nat.sub_zero, Int.add_zero, Int.zero_add, Nat.add_zero, Nat.zero_add, Nat.zero_mul]
          refine atW 167 rfl (ih (i + 1) _ H2 v' (ns ++ [w.1]) N hr1 (by omega) (by omega) (hE1.trans hE2 (by omega)) (by omega) (by simp; omega) (hE2.of b1 (by omega)) (hE2.of o1 (by omega)) (hE2.of r1 (by omega)) hO2 rfl rfl rfl rfl rfl ?_ (fun q e f2 H3 b => ke q e f2 H3 (by rw [rfill, if_neg hB, if_pos hnm]; exact b)) (fun ns' N' f2 H3 v3 b => k ns' N' f2 H3 v3 (by rw [rfill, if_neg hB, if_pos hnm]; exact b)))
          first | rfl | (show AV.i _ _ = _; congr 1; omega)
        | false =>
          simp (disch := first | omega | (simp only [List.length_cons, List.length_nil, true_and, and_true, nx_push, nx_put, nx_mark]; try omega)) only [go_sem, ↓reduceIte, Nat.reduceAdd, Nat.reduceMul, Nat.reduceSub, Int.reduceToNat, UInt8.reduceToNat, Nat.reduceLeDiff, Nat.reduceEqDiff, Nat.sub_zero, Int.add_zero, Int.zero_add, Nat.add_zero, Nat.zero_add, Nat.zero_mul, a12]
          refine w_dregA rfl rfl ?_
          simp (disch := first | omega | (simp only [List.length_cons, List.length_nil, true_and, and_true, nx_push, nx_put, nx_mark]; try omega)) only [go_sem, ↓reduceIte, Nat.reduceAdd, Nat.reduceMul, Nat.reduceSub, Int.reduceToNat, UInt8.reduceToNat, Nat.reduceLeDiff, Nat.reduceEqDiff, Nat.sub_zero, Int.add_zero, Int.zero_add, Nat.add_zero, Nat.zero_add, Nat.zero_mul, a12, r1]
          exact atQ 167 rfl (ke w.2 15 _ _ (by rw [rfill, if_neg hB, if_neg (by rw [hnm]; simp)]) rfl rfl rfl (hE1.put hm.2.2 (by omega) _) (by rw [Mem.get_put, if_pos rfl]; rfl))
end Go.Fw.Ro
end
section
/- The document's fact of a line is the fact of a line: a plain law. -/
namespace Go.Fw.Ro
open Go Go.Fw
def mkF (k : Int) (ns : List (List UInt8)) (N at_ : Int) : FactT :=
  if k = 3 ∨ k = 4 then ⟨k, ns.getD 0 [], ns.getD 1 [], [], N, [], at_⟩ else if k = 5 then ⟨k, ns.getD 0 [], ns.getD 1 [], ns.getD 2 [], N, [], at_⟩
  else if k = 6 ∨ k = 7 then ⟨k, ns.getD 0 [], [], [], N, ns.drop 1, at_⟩ else if k = 8 then ⟨k, ns.getD 0 [], ns.getD 1 [], [], N, ns.drop 2, at_⟩ else ⟨k, ns.getD 0 [], [], [], N, [], at_⟩
def goodN (k : Int) (n : Nat) : Bool := if k = 1 ∨ k = 2 then decide (n = 2) else if k = 3 ∨ k = 4 then decide (n = 3) else if k = 5 then decide (n = 4) else if k = 6 ∨ k = 7 then decide (5 ≤ n) else decide (3 ≤ n)
def rfactF : LineT → FactT × Int × Int
  | (at_, []) => (fact0, at_, 9)
  | (at_, w :: r) => match formF w.1 with
    | none => (fact0, w.2, 9)
    | some F => if goodN F.kind (r.length + 1) = false then (fact0, w.2, 9) else match rfill (decide (F.kind = 6 ∨ F.kind = 7)) 1 r [] 0 with
      | .error (q, e) => (fact0, q, e)
      | .ok (ns, N) => (mkF F.kind ns N at_, 0, 0)
def firstBad : List (List UInt8 × Int) → Option Int
  | [] => none
  | w :: r => if isName w.1 = true then firstBad r else some w.2
theorem rf_rest {num : Bool} : ∀ (r : List (List UInt8 × Int)) (i : Nat) (ns : List (List UInt8)) (N : Int), (num = true → 2 < i) → rfill num i r ns N = match firstBad r with
    | some q => .error (q, 15)
    | none => .ok (ns ++ r.map (·.1), N)
  | [], i, ns, N, h => by simp [rfill, firstBad]
  | w :: r, i, ns, N, h => by
    rw [rfill, if_neg (fun c => by have := h c.2; omega), firstBad]
    by_cases hn : isName w.1 = true
    · rw [if_pos hn, if_pos hn, rf_rest r (i + 1) _ N (fun c => by have := h c; omega)]
      cases firstBad r <;> simp
    · rw [if_neg hn, if_neg hn]
theorem ff_rest {F : Form} : ∀ (r : List (List UInt8 × Int)) (i : Nat) (x : FactT), F.names ≤ (i : Int) → (F.number = true → F.names < (i : Int)) → fillF F i r x = match firstBad r with
    | some q => .error (q, 15)
    | none => .ok { x with L := x.L ++ r.map (·.1) }
  | [], i, x, h, hn => by simp [fillF, firstBad]
  | w :: r, i, x, h, hn => by
    rw [fillF, if_neg (fun c => by have := hn c.1; omega), firstBad]
    by_cases hb : isName w.1 = true
    · rw [if_pos hb, if_pos hb, ff_rest r (i + 1) _ (by omega) (fun c => by have := hn c; omega)]
      rw [show putN i F.names w.1 x = { x with L := x.L ++ [w.1] } by unfold putN; rw [if_pos h]]
      cases firstBad r <;> simp
    · rw [if_neg hb, if_neg hb]
theorem rf_num (w1 w2 : List UInt8 × Int) (t : List (List UInt8 × Int)) : rfill true 1 (w1 :: w2 :: t) [] 0 = if isName w1.1 = true then (if rnum w2.1 = 0 then .error (w2.2, 9) else rfill true 3 t [w1.1] (rnum w2.1)) else .error (w1.2, 15) := by
  rw [rfill, if_neg (by simp)]
  split
  · rw [rfill, if_pos ⟨rfl, rfl⟩]; rfl
  · rfl
theorem ff_num (k : Int) (mo : Int) (w1 w2 : List UInt8 × Int) (t : List (List UInt8 × Int)) (x : FactT) : fillF ⟨k, 1, true, 4, mo⟩ 0 (w1 :: w2 :: t) x = if isName w1.1 = true then (match numF w2.1 with
    | some n => fillF ⟨k, 1, true, 4, mo⟩ 2 t { (putN 0 1 w1.1 x) with N := n }
    | none => .error (w2.2, 9)) else .error (w1.2, 15) := by
  rw [fillF, if_neg (by simp)]
  split
  · rw [fillF, if_pos ⟨rfl, rfl⟩]
    cases numF w2.1 <;> rfl
  · rfl
theorem rf_ses (w1 w2 : List UInt8 × Int) (t : List (List UInt8 × Int)) : rfill false 1 (w1 :: w2 :: t) [] 0 = if isName w1.1 = true then (if isName w2.1 = true then rfill false 3 t [w1.1, w2.1] 0 else .error (w2.2, 15)) else .error (w1.2, 15) := by
  rw [rfill, if_neg (by simp)]
  split
  · rw [rfill, if_neg (by simp)]; rfl
  · rfl
theorem ff_ses (k : Int) (mo : Int) (w1 w2 : List UInt8 × Int) (t : List (List UInt8 × Int)) (x : FactT) : fillF ⟨k, 2, false, 2, mo⟩ 0 (w1 :: w2 :: t) x = if isName w1.1 = true then (if isName w2.1 = true then fillF ⟨k, 2, false, 2, mo⟩ 2 t (putN 1 2 w2.1 (putN 0 2 w1.1 x)) else .error (w2.2, 15)) else .error (w1.2, 15) := by
  rw [fillF, if_neg (by simp)]
  split
  · rw [fillF, if_neg (by simp)]; rfl
  · rfl
theorem rfact_eq (l : LineT) (hl : l.2.length ≤ 1000000) : rfactF l = factF l := by
  obtain ⟨a, ps⟩ := l
  cases ps with
  | nil => rfl
  | cons w r =>
    simp only at hl
    simp only [List.length_cons] at hl
    simp only [rfactF, factF]
    cases hF : formF w.1 with
    | none => rfl
    | some F =>
      simp only
      have eF : F = ⟨1, 1, false, 1, 1⟩ ∨ F = ⟨2, 1, false, 1, 1⟩ ∨ F = ⟨3, 2, false, 2, 2⟩ ∨ F = ⟨4, 2, false, 2, 2⟩ ∨ F = ⟨5, 3, false, 3, 3⟩ ∨ F = ⟨6, 1, true, 4, 1073741824⟩ ∨ F = ⟨7, 1, true, 4, 1073741824⟩ ∨ F = ⟨8, 2, false, 2, 1073741824⟩ := by
        simp only [formF] at hF
        repeat' split at hF
        all_goals first | (injection hF with hF; subst hF; simp) | cases hF
      rcases eF with rfl | rfl | rfl | rfl | rfl | rfl | rfl | rfl
      · match r, hl with
        | [], _ => simp [goodN]
        | [w1], _ => by_cases h1 : isName w1.1 = true <;> simp [goodN, rfill, fillF, putN, mkF, h1]
        | _ :: _ :: r, hl => simp only [List.length_cons] at hl; simp [goodN, List.length_cons]; try omega
      · match r, hl with
        | [], _ => simp [goodN]
        | [w1], _ => by_cases h1 : isName w1.1 = true <;> simp [goodN, rfill, fillF, putN, mkF, h1]
        | _ :: _ :: r, hl => simp only [List.length_cons] at hl; simp [goodN, List.length_cons]; try omega
      · match r, hl with
        | [], _ => simp [goodN]
        | [_], _ => simp [goodN]
        | [w1, w2], _ => by_cases h1 : isName w1.1 = true <;> by_cases h2 : isName w2.1 = true <;> simp [goodN, rfill, fillF, putN, mkF, h1, h2]
        | _ :: _ :: _ :: r, hl => simp only [List.length_cons] at hl; simp [goodN, List.length_cons]; try omega
      · match r, hl with
        | [], _ => simp [goodN]
        | [_], _ => simp [goodN]
        | [w1, w2], _ => by_cases h1 : isName w1.1 = true <;> by_cases h2 : isName w2.1 = true <;> simp [goodN, rfill, fillF, putN, mkF, h1, h2]
        | _ :: _ :: _ :: r, hl => simp only [List.length_cons] at hl; simp [goodN, List.length_cons]; try omega
      · match r, hl with
        | [], _ => simp [goodN]
        | [_], _ => simp [goodN]
        | [_, _], _ => simp [goodN]
        | [w1, w2, w3], _ => by_cases h1 : isName w1.1 = true <;> by_cases h2 : isName w2.1 = true <;> by_cases h3 : isName w3.1 = true <;> simp [goodN, rfill, fillF, putN, mkF, h1, h2, h3]
        | _ :: _ :: _ :: _ :: r, hl => simp only [List.length_cons] at hl; simp [goodN, List.length_cons]; try omega
      · match r, hl with
        | [], _ => simp [goodN]
        | [_], _ => simp [goodN]
        | [_, _], _ => simp [goodN]
        | [_, _, _], _ => simp [goodN]
        | w1 :: w2 :: w3 :: w4 :: r, hl =>
          simp only [List.length_cons] at hl
          have hg : ∀ (X Y : FactT × Int × Int), (if ((r.length + 1 + 1 + 1 + 1 : Nat) : Int) < 4 ∨ 1073741824 < ((r.length + 1 + 1 + 1 + 1 : Nat) : Int) then X else Y) = Y := fun X Y => if_neg (by omega)
          have hq : goodN 6 (r.length + 1 + 1 + 1 + 1 + 1) = true := by simp [goodN]
          simp only [List.length_cons, hg, hq]
          simp only [true_or, or_true, decide_true]
          rw [rf_num, ff_num]
          rw [if_neg (by simp)]
          by_cases h1 : isName w1.1 = true
          · rw [if_pos h1, if_pos h1]
            cases hN : numF w2.1 with
            | none =>
              have h0 : rnum w2.1 = 0 := by unfold rnum; rw [hN]
              rw [if_pos h0]
            | some n =>
              obtain ⟨g1, g2⟩ := rnum_ok hN
              rw [if_neg (by rw [g1]; exact g2), rf_rest _ 3 _ _ (by simp)]
              simp only
              rw [ff_rest _ 2 _ (by simp) (by simp), g1]
              cases firstBad (w3 :: w4 :: r) with
              | some q => rfl
              | none => simp [mkF, putN]
          · rw [if_neg h1, if_neg h1]
      · match r, hl with
        | [], _ => simp [goodN]
        | [_], _ => simp [goodN]
        | [_, _], _ => simp [goodN]
        | [_, _, _], _ => simp [goodN]
        | w1 :: w2 :: w3 :: w4 :: r, hl =>
          simp only [List.length_cons] at hl
          have hg : ∀ (X Y : FactT × Int × Int), (if ((r.length + 1 + 1 + 1 + 1 : Nat) : Int) < 4 ∨ 1073741824 < ((r.length + 1 + 1 + 1 + 1 : Nat) : Int) then X else Y) = Y := fun X Y => if_neg (by omega)
          have hq : goodN 7 (r.length + 1 + 1 + 1 + 1 + 1) = true := by simp [goodN]
          simp only [List.length_cons, hg, hq]
          simp only [true_or, or_true, decide_true]
          rw [rf_num, ff_num]
          rw [if_neg (by simp)]
          by_cases h1 : isName w1.1 = true
          · rw [if_pos h1, if_pos h1]
            cases hN : numF w2.1 with
            | none =>
              have h0 : rnum w2.1 = 0 := by unfold rnum; rw [hN]
              rw [if_pos h0]
            | some n =>
              obtain ⟨g1, g2⟩ := rnum_ok hN
              rw [if_neg (by rw [g1]; exact g2), rf_rest _ 3 _ _ (by simp)]
              simp only
              rw [ff_rest _ 2 _ (by simp) (by simp), g1]
              cases firstBad (w3 :: w4 :: r) with
              | some q => rfl
              | none => simp [mkF, putN]
          · rw [if_neg h1, if_neg h1]
      · match r, hl with
        | [], _ => simp [goodN]
        | [_], _ => simp [goodN]
        | w1 :: w2 :: r, hl =>
          simp only [List.length_cons] at hl
          have hg : ∀ (X Y : FactT × Int × Int), (if ((r.length + 1 + 1 : Nat) : Int) < 2 ∨ 1073741824 < ((r.length + 1 + 1 : Nat) : Int) then X else Y) = Y := fun X Y => if_neg (by omega)
          have hq : goodN 8 (r.length + 1 + 1 + 1) = true := by simp [goodN]
          simp only [List.length_cons, hg, hq]
          have hd : decide ((8 : Int) = 6 ∨ (8 : Int) = 7) = false := by decide
          rw [hd, rf_ses, ff_ses]
          rw [if_neg (by simp)]
          by_cases h1 : isName w1.1 = true
          · rw [if_pos h1, if_pos h1]
            by_cases h2 : isName w2.1 = true
            · rw [if_pos h2, if_pos h2, rf_rest _ 3 _ _ (by simp), ff_rest _ 2 _ (by simp) (by simp)]
              cases firstBad r with
              | some q => rfl
              | none => simp [mkF, putN]
            · rw [if_neg h2, if_neg h2]
          · rw [if_neg h1, if_neg h1]
end Go.Fw.Ro
end
