/- Lemmas for the law's proof, part 7. -/
import Derived.Test.YtpcioegnchiheaaGreatDoorT06
import Derived.Test.YtpcioegnchiheaaGreatDoorT04
import Derived.Test.YtpcioegnchiheaaGreatDoorT03
import Derived.Shelf.Strings.Builder1
import Derived.Shelf.Strings.OnBuilder
import Derived.Shelf.Strconv.Itoa3
import Derived.Shelf.LaysM
import Derived.Test.YtpcioegnchiheaaGreatDoorProg
import Derived.Lib.AppendIntMem
set_option linter.unusedSimpArgs false
set_option linter.unusedVariables false
set_option linter.constructorNameAsVariable false
set_option linter.unnecessarySimpa false
section
/- The document's fact of a line, walked. -/
namespace Go.Fw.Ro
open Go Go.Fw Go.Fw.Sys
set_option maxRecDepth 100000
variable {H : Mem} {K : AV → Mem → Prop}
theorem sR2 {G : Gt} {id t : Nat} {l : List (List UInt8)} {cap : Option Nat} (hget : G id = .mem (l.map AV.s) 1 t true 0) (hc : ∀ c, cap = some c → l.length ≤ c) : SlR 1 Rs G (.sl id 0 l.length cap) l :=
  .inr ⟨id, 0, cap, _, t, true, 0, rfl, hget, hc, ⟨by simp, fun j y hy => by
    show _ = _
    have h1 : (l.map AV.s)[j]? = some (.s y) := by rw [List.getElem?_map, hy]; rfl
    obtain ⟨h2, h3⟩ := List.getElem?_eq_some_iff.1 h1
    simp only [Nat.mul_one, Nat.zero_add]
    rw [List.drop_eq_getElem_cons h2, h3]; rfl⟩⟩
theorem kwords_run (hw : Wf H) (h : ∀ v H', Ext H.next H H' → SlR 1 Rs (sn H.next H') v kws → K v H') : @R S (.f n_entailref13_words) [] H ⟨K⟩ := by
  refine run_fn2 rfl rfl ?_
  unfold bd_entailref13_words
  simp (disch := first | omega | (simp only [List.length_cons, List.length_nil, true_and, and_true, nx_push, nx_put, nx_mark]; try omega)) only [go_sem, ↓reduceIte, Nat.reduceAdd, Nat.reduceMul, Nat.reduceSub, Int.reduceToNat, UInt8.reduceToNat, Nat.reduceLeDiff, Nat.reduceEqDiff, Nat.sub_zero, Int.add_zero, Int.zero_add, Nat.add_zero, Nat.zero_add, Nat.zero_mul]
  exact h _ _ ((Ext.refl hw).push _ (Nat.le_refl _)) (sR2 (l := kws) (t := ty_string) (by unfold sn; rw [if_neg (by omega), Mem.get_push, if_pos rfl]; rfl) (fun c e => by cases e; exact Nat.le_refl _))
theorem SlO_str {n t : Nat} {v : AV} {xs : List (List UInt8)} (h : SlO 1 t Rs n H v xs) (hx : xs ≠ []) : ∃ bid, v = .sl bid 0 xs.length none ∧ H.get bid = .mem (xs.map AV.s) 1 t true 0 ∧ n ≤ bid := by
  rcases h with ⟨e, _⟩ | ⟨bid, cells, e1, e2, e3, e4, e5⟩
  · exact absurd e hx
  · refine ⟨bid, e1, ?_, e4⟩
    rw [e2]
    congr 1
    apply List.ext_getElem?
    intro j
    by_cases hj : j < xs.length
    · have := e5.el j (xs[j]) (by simp [hj])
      simp only [Rs, Nat.mul_one, Nat.zero_add] at this
      have h4 := congrArg (fun l => l[0]?) this
      simp only [List.getElem?_take_of_lt Nat.zero_lt_one, List.getElem?_drop, Nat.add_zero] at h4
      rw [h4]; simp [hj]
    · rw [List.getElem?_eq_none (by omega), List.getElem?_eq_none (by simp; omega)]
theorem slVA_cong {H H' : Mem} {sz id off len : Nat} {cap : Option Nat} {lo hi mx : Option AV} (h : H.get id = H'.get id) : slVA H sz (.sl id off len cap) lo hi mx = slVA H' sz (.sl id off len cap) lo hi mx := by simp only [slVA, h]
theorem slVA_id {sz id off len : Nat} {cap : Option Nat} {lo hi : Option AV} {id' o' l' : Nat} {c' : Option Nat} (h : slVA H sz (.sl id off len cap) lo hi none = some (.sl id' o' l' c')) : id' = id := by
  simp only [slVA] at h
  repeat' split at h
  all_goals first | (cases h; done) | (cases h; rfl) | (simp at h; done) | (simp at h; omega)
theorem SlR_at {G G' : Gt} {u : AV} {xs : List (List UInt8)} (h : SlR 1 Rs G u xs) (hid : ∀ id o' l' c', u = .sl id o' l' c' → G' id = G id) : SlR 1 Rs G' u xs := by
  rcases h with h | ⟨id, off, cap, cells, t, own, frz, h1, h2, hc, h3⟩
  · exact .inl h
  · exact .inr ⟨id, off, cap, cells, t, own, frz, h1, by rw [hid _ _ _ _ h1]; exact h2, hc, ⟨h3.le, h3.el⟩⟩
theorem rf_len : ∀ (r : List (List UInt8 × Int)) (ns : List (List UInt8)) (N : Int), rfill true 1 r [] 0 = .ok (ns, N) → 1 ≤ r.length → ∃ a L, ns = a :: L
  | [], _, _, _, h => by simp at h
  | [w], ns, N, e, _ => by
    rw [rfill, if_neg (by simp)] at e
    split at e
    · rw [rfill] at e; cases e; exact ⟨_, _, rfl⟩
    · cases e
  | w1 :: w2 :: t, ns, N, e, _ => by
    rw [rf_num] at e
    split at e
    · split at e
      · cases e
      · rw [rf_rest (num := true) t 3 _ _ (by simp)] at e
        split at e
        · cases e
        · cases e; exact ⟨_, _, rfl⟩
    · cases e
set_option maxHeartbeats 8000000 in
theorem RFact_run {at_ : Int} {v : AV} {ws : List WordT} (hv : SlR 2 Rword H.get v ws) (hw : Wf H) (hln : ws.length ≤ 1000000) (hlw : ∀ w ∈ ws, w.1.length ≤ 1000000)
    (h : ∀ c H', Ext H.next H H' → Rfact (sn H.next H') c (factF (at_, ws)).1 → K (.tup [.agg c, .i .i64 (factF (at_, ws)).2.1, .i .i64 (factF (at_, ws)).2.2]) H') : @R S (.f n_entailref13_Fact) [.agg [.i .i64 at_, v]] H ⟨K⟩ := by
  rw [← rfact_eq (at_, ws) hln] at h
  have v1 := hv.one
  have l1 := hv.len
  have fin0 : ∀ (H' : Mem), Ext H.next H H' → ∀ q e : Int, rfactF (at_, ws) = (fact0, q, e) → K (.tup [.agg (factC fact0 .nsl), .i .i64 q, .i .i64 e]) H' := fun H' hE q e he => by
    rw [he] at h
    exact h _ H' hE ⟨.nsl, rfl, SlR.nil⟩
  refine run_fn2 rfl rfl ?_
  unfold bd_entailref13_Fact
  cases ws with
  | nil =>
    simp (disch := first | omega | (simp only [List.length_cons, List.length_nil, true_and, and_true, nx_push, nx_put, nx_mark]; try omega)) only [go_sem, ↓reduceIte, Nat.reduceAdd, Nat.reduceMul, Nat.reduceSub, Int.reduceToNat, UInt8.reduceToNat, Nat.reduceLeDiff, Nat.reduceEqDiff, Nat.sub_zero, Int.add_zero, Int.zero_add, Nat.add_zero, Nat.zero_add, Nat.zero_mul, v1, l1]
    refine w_dregA rfl rfl ?_
    simp (disch := first | omega | (simp only [List.length_cons, List.length_nil, true_and, and_true, nx_push, nx_put, nx_mark]; try omega)) only [go_sem, ↓reduceIte, Nat.reduceAdd, Nat.reduceMul, Nat.reduceSub, Int.reduceToNat, UInt8.reduceToNat, Nat.reduceLeDiff, Nat.reduceEqDiff, Nat.sub_zero, Int.add_zero, Int.zero_add, Nat.add_zero, Nat.zero_add, Nat.zero_mul, v1, l1, res3ctt]
    refine fin0 _ ?_ at_ 9 rfl
    exact ((((Ext.refl hw).push _ (Nat.le_refl _)).push _ (by simp only [nx_push]; omega)).put (id := H.next + 1) (by omega) (by simp only [nx_push]; omega) _)
  | cons w0 r =>
    simp (disch := first | omega | (simp only [List.length_cons, List.length_nil, true_and, and_true, nx_push, nx_put, nx_mark]; try omega)) only [go_sem, ↓reduceIte, Nat.reduceAdd, Nat.reduceMul, Nat.reduceSub, Int.reduceToNat, UInt8.reduceToNat, Nat.reduceLeDiff, Nat.reduceEqDiff, Nat.sub_zero, Int.add_zero, Int.zero_add, Nat.add_zero, Nat.zero_add, Nat.zero_mul, v1, l1]
    generalize hH1 : ((((H.mark []).push (AO.mem [AV.i IntKind.i64 at_, v] 0 ty_api_Line true 0)).push (AO.mem [AV.i IntKind.i64 0, AV.s [], AV.s [], AV.s [], AV.i IntKind.i64 0, AV.nsl, AV.i IntKind.i64 0] 0 ty_api_Fact true 0)).push (AO.mem [AV.i IntKind.i64 0, AV.s [], AV.s [], AV.s [], AV.i IntKind.i64 0, AV.nsl, AV.i IntKind.i64 0] 0 ty_api_Fact true 0)).put (H.next + 1 + 1) (AO.mem [AV.i IntKind.i64 0, AV.s [], AV.s [], AV.s [], AV.i IntKind.i64 0, AV.nsl, AV.i IntKind.i64 at_] 0 ty_api_Fact true 0) = H1
    have hE1 : Ext H.next (H.mark []) H1 := by rw [← hH1]; exact ((((Ext.refl (H := H.mark []) (n := H.next) hw).push _ (Nat.le_refl _)).push _ (by simp only [nx_push, nx_mark]; omega)).push _ (by simp only [nx_push, nx_mark]; omega)).put (id := H.next + 1 + 1) (by omega) (by simp only [nx_push, nx_mark]; omega) _
    have n1 : H1.next = H.next + 3 := by rw [← hH1]; rfl
    have a1 : H1.get H.next = .mem [.i .i64 at_, v] 0 ty_api_Line true 0 := by rw [← hH1]; simp (disch := first | omega | (simp only [List.length_cons, List.length_nil, true_and, and_true, nx_push, nx_put, nx_mark]; try omega)) only [go_sem, ↓reduceIte, Nat.reduceAdd, Nat.reduceMul, Nat.reduceSub, Int.reduceToNat, UInt8.reduceToNat, Nat.reduceLeDiff, Nat.reduceEqDiff, Nat.sub_zero, Int.add_zero, Int.zero_add, Nat.add_zero, Nat.zero_add, Nat.zero_mul]
    have a2 : H1.get (H.next + 1) = .mem (factC fact0 .nsl) 0 ty_api_Fact true 0 := by rw [← hH1]; simp (disch := first | omega | (simp only [List.length_cons, List.length_nil, true_and, and_true, nx_push, nx_put, nx_mark]; try omega)) only [go_sem, ↓reduceIte, Nat.reduceAdd, Nat.reduceMul, Nat.reduceSub, Int.reduceToNat, UInt8.reduceToNat, Nat.reduceLeDiff, Nat.reduceEqDiff, Nat.sub_zero, Int.add_zero, Int.zero_add, Nat.add_zero, Nat.zero_add, Nat.zero_mul, factC, fact0]
    have a3 : H1.get (H.next + 1 + 1) = .mem (factC { { fact0 with at_ := at_ } with kind := 0 } .nsl) 0 ty_api_Fact true 0 := by rw [← hH1]; simp (disch := first | omega | (simp only [List.length_cons, List.length_nil, true_and, and_true, nx_push, nx_put, nx_mark]; try omega)) only [go_sem, ↓reduceIte, Nat.reduceAdd, Nat.reduceMul, Nat.reduceSub, Int.reduceToNat, UInt8.reduceToNat, Nat.reduceLeDiff, Nat.reduceEqDiff, Nat.sub_zero, Int.add_zero, Int.zero_add, Nat.add_zero, Nat.zero_add, Nat.zero_mul, factC, fact0]
    clear hH1
    refine kwords_run hE1.wf (fun wd H2 x2 hwd => ?_)
    have hE2 := hE1.trans x2 (by omega)
    have n2 := x2.next
    have b1 := x2.of a1 (by omega)
    have b2 := x2.of a2 (by omega)
    have b3 := x2.of a3 (by omega)
    have wd1 := hwd.one
    simp (disch := first | omega | (simp only [List.length_cons, List.length_nil, true_and, and_true, nx_push, nx_put, nx_mark]; try omega)) only [go_sem, ↓reduceIte, Nat.reduceAdd, Nat.reduceMul, Nat.reduceSub, Int.reduceToNat, UInt8.reduceToNat, Nat.reduceLeDiff, Nat.reduceEqDiff, Nat.sub_zero, Int.add_zero, Int.zero_add, Nat.add_zero, Nat.zero_add, Nat.zero_mul, wd1]
    have onlyE : ∀ H', Only (H.next + 1 + 1) H2 H' → Ext H.next (H.mark []) H' := fun H' k => ⟨by rw [k.next]; exact hE2.next, k.marks.trans hE2.marks, fun id hd => by rw [k.get id (by omega)]; exact hE2.get id hd, k.wf⟩
    have hv' : ∀ H', Ext H.next (H.mark []) H' → SlR 2 Rword H'.get v (w0 :: r) := fun H' e => hv.mono Rword_mono (le_up (H := H.mark []) e hw (Nat.le_refl _))
    have hwd' : ∀ H', Only (H.next + 1 + 1) H2 H' → SlR 1 Rs H'.get wd kws := fun H' k => hwd.mono Rs_mono (fun id hd => by
      unfold sn at hd ⊢
      split at hd
      · exact absurd rfl hd
      · rename_i hlt
        rw [if_neg hlt]
        exact k.get id (by omega))
    refine atW 167 rfl (RF0_loop (at_ := at_) (wv := v) (u := .nsl) (wds := wd) (x := { fact0 with at_ := at_ }) (w0 := w0) (ws := r) (bx := H.next) (o := H.next + 1 + 1) (kws.drop 1) 1 _ H2 H2 0 rfl (by decide) (Only.refl x2.wf) (by omega) (by omega) (fun H' k => ⟨hwd' H' k, hv' H' (onlyE H' k)⟩) b1 b3 rfl rfl rfl rfl rfl (fun f' H3 c1 c2 c5 o3 g3 => ?_))
    have c1 : f' 1 = .p (some (H.next, 0)) := c1
    have c2 : f' 2 = .p (some (H.next + 1, 0)) := c2
    have c5 : f' 5 = .p (some (H.next + 1 + 1, 0)) := c5
    have ck : kindL w0.1 (List.drop 1 kws) 1 0 = match formF w0.1 with
      | some F => F.kind
      | none => 0 := kind_form w0.1
    rw [ck] at g3
    have d1 : H3.get H.next = .mem [.i .i64 at_, v] 0 ty_api_Line true 0 := by rw [o3.get _ (by omega)]; exact b1
    have d2 : H3.get (H.next + 1) = .mem (factC fact0 .nsl) 0 ty_api_Fact true 0 := by rw [o3.get _ (by omega)]; exact b2
    have hE3 := onlyE H3 o3
    have n3 : H3.next = H2.next := o3.next
    obtain ⟨jd, q2, d, z1, z2, z3, z4, z5, z6⟩ := hv.at_ (j := 0) (x := w0) rfl
    simp only [Rword] at z2
    subst z2
    have hjd : jd < H.next := hw jd z6
    have z7 : ldO (H3.get jd) false 1 (q2 + 1) = some (.i .i64 w0.2) := by rw [hE3.get jd hjd]; exact z3 1 (by omega)
    have z1' : ixVS 2 v (.i .i64 0) = some (.p (some (jd, q2))) := z1
    have hm3 : H3.marks = [] := hE3.marks
    simp only [factC, fact0] at d2
    cases hF : formF w0.1 with
    | none =>
      rw [hF] at g3
      simp only [factC, fact0] at g3
      simp (disch := first | omega | (simp only [List.length_cons, List.length_nil, true_and, and_true, nx_push, nx_put, nx_mark]; try omega)) only [go_sem, ↓reduceIte, Nat.reduceAdd, Nat.reduceMul, Nat.reduceSub, Int.reduceToNat, UInt8.reduceToNat, Nat.reduceLeDiff, Nat.reduceEqDiff, Nat.sub_zero, Int.add_zero, Int.zero_add, Nat.add_zero, Nat.zero_add, Nat.zero_mul, c1, c2, c5, d1, g3, l1]
      refine w_dregA rfl rfl ?_
      simp (disch := first | omega | (simp only [List.length_cons, List.length_nil, true_and, and_true, nx_push, nx_put, nx_mark]; try omega)) only [go_sem, ↓reduceIte, Nat.reduceAdd, Nat.reduceMul, Nat.reduceSub, Int.reduceToNat, UInt8.reduceToNat, Nat.reduceLeDiff, Nat.reduceEqDiff, Nat.sub_zero, Int.add_zero, Int.zero_add, Nat.add_zero, Nat.zero_add, Nat.zero_mul, c1, c2, c5, d1, d2, g3, l1, z1', z7, hm3, res3ctt]
      exact fin0 _ ((Ext.mark hE3).put (id := H.next + 1) (by omega) (by simp only [nx_mark]; omega) _) w0.2 9 (by simp only [rfactF, hF])
    | some F =>
      rw [hF] at g3
      have eF : F = ⟨1, 1, false, 1, 1⟩ ∨ F = ⟨2, 1, false, 1, 1⟩ ∨ F = ⟨3, 2, false, 2, 2⟩ ∨ F = ⟨4, 2, false, 2, 2⟩ ∨ F = ⟨5, 3, false, 3, 3⟩ ∨ F = ⟨6, 1, true, 4, 1073741824⟩ ∨ F = ⟨7, 1, true, 4, 1073741824⟩ ∨ F = ⟨8, 2, false, 2, 1073741824⟩ := by
        have hF' := hF
        simp only [formF] at hF'
        repeat' split at hF'
        all_goals first | (injection hF' with hF'; subst hF'; simp) | cases hF'
      by_cases hg : goodN F.kind (r.length + 1) = false
      · have he : rfactF (at_, w0 :: r) = (fact0, w0.2, 9) := by simp only [rfactF, hF]; rw [if_pos hg]
        rcases eF with rfl | rfl | rfl | rfl | rfl | rfl | rfl | rfl
        all_goals
          simp [goodN] at hg
          simp only [factC, fact0] at g3
          simp (disch := first | omega | (simp only [List.length_cons, List.length_nil, true_and, and_true, nx_push, nx_put, nx_mark]; try omega)) only [go_sem, ↓reduceIte, Nat.reduceAdd, Nat.reduceMul, Nat.reduceSub, Int.reduceToNat, UInt8.reduceToNat, Nat.reduceLeDiff, Nat.reduceEqDiff, Nat.sub_zero, Int.add_zero, Int.zero_add, Nat.add_zero, Nat.zero_add, Nat.zero_mul, c1, c2, c5, d1, g3, l1]
          refine w_dregA rfl rfl ?_
          simp (disch := first | omega | (simp only [List.length_cons, List.length_nil, true_and, and_true, nx_push, nx_put, nx_mark]; try omega)) only [go_sem, ↓reduceIte, Nat.reduceAdd, Nat.reduceMul, Nat.reduceSub, Int.reduceToNat, UInt8.reduceToNat, Nat.reduceLeDiff, Nat.reduceEqDiff, Nat.sub_zero, Int.add_zero, Int.zero_add, Nat.add_zero, Nat.zero_add, Nat.zero_mul, c1, c2, c5, d1, d2, g3, l1, z1', z7, hm3, res3ctt]
          exact fin0 _ ((Ext.mark hE3).put (id := H.next + 1) (by omega) (by simp only [nx_mark]; omega) _) w0.2 9 he
      · have R0 : ∀ res, rfill (decide (F.kind = 6 ∨ F.kind = 7)) 1 r [] 0 = res → rfactF (at_, w0 :: r) = match res with
          | .error (q, e) => (fact0, q, e)
          | .ok (ns, N) => (mkF F.kind ns N at_, 0, 0) := fun res e => by simp only [rfactF, hF]; rw [if_neg hg, e]; cases res <;> rfl
        have fin1 : ∀ (H' : Mem), Ext H.next H H' → ∀ (x : FactT) (u : AV), SlR 1 Rs (sn H.next H') u x.L → rfactF (at_, w0 :: r) = (x, 0, 0) → K (.tup [.agg (factC x u), .i .i64 0, .i .i64 0]) H' := fun H' hE x u hu he => by
          rw [he] at h
          exact h _ H' hE ⟨u, rfl, hu⟩
        have R1 : ∀ ns N, rfill false 1 r [] 0 = .ok (ns, N) → ns = r.map (·.1) ∧ N = 0 := fun ns N e => by
          rw [rf_rest (num := false) r 1 [] 0 (by simp)] at e
          split at e
          · cases e
          · simp only [Except.ok.injEq, Prod.mk.injEq] at e; exact ⟨by rw [← e.1]; simp, e.2.symm⟩
        rcases eF with rfl | rfl | rfl | rfl | rfl | rfl | rfl | rfl
        all_goals
          simp [goodN] at hg
          simp only [factC, fact0] at g3
          simp (disch := first | omega | (simp only [List.length_cons, List.length_nil, true_and, and_true, nx_push, nx_put, nx_mark]; try omega)) only [go_sem, ↓reduceIte, Nat.reduceAdd, Nat.reduceMul, Nat.reduceSub, Int.reduceToNat, UInt8.reduceToNat, Nat.reduceLeDiff, Nat.reduceEqDiff, Nat.sub_zero, Int.add_zero, Int.zero_add, Nat.add_zero, Nat.zero_add, Nat.zero_mul, c1, c2, c5, d1, g3, l1]
        · refine atW 167 rfl (RF1_loop (at_ := at_) (wv := v) (u := .nsl) (x := { fact0 with at_ := at_, kind := 1 }) (al := w0 :: r) (m := H.next) (n1 := H3.next) (bx := H.next) (o := H.next + 1 + 1) (rs := H.next + 1) (H0 := H.mark []) hln hlw rfl hv' ⟨by omega, by omega, by omega⟩ ⟨by omega, by omega, by omega⟩ ⟨by omega, by omega, by omega⟩ r 1 _ H3 .nsl [] 0 rfl (by simp only [List.length_cons]; omega) (Nat.le_refl _) hE3 (Nat.le_refl _) (by simp) d1 g3 d2 SlO.nil rfl rfl rfl rfl rfl rfl (fun q e f' H4 k1 k2 k3 k4 hE4 g4 => ?_) (fun ns N f' H4 v4 k1 k2 k5 k10 hE4 hn4 g4 gr4 hO4 => ?_))
          · have hm4 : H4.marks = [] := hE4.marks
            simp only [factC, fact0] at g4
            simp (disch := first | omega | (simp only [List.length_cons, List.length_nil, true_and, and_true, nx_push, nx_put, nx_mark]; try omega)) only [go_sem, ↓reduceIte, Nat.reduceAdd, Nat.reduceMul, Nat.reduceSub, Int.reduceToNat, UInt8.reduceToNat, Nat.reduceLeDiff, Nat.reduceEqDiff, Nat.sub_zero, Int.add_zero, Int.zero_add, Nat.add_zero, Nat.zero_add, Nat.zero_mul, k2, k3, k4, g4, hm4, res3ctt]
            exact fin0 _ (Ext.mark hE4) q e (R0 _ k1)
          · have hm4 : H4.marks = [] := hE4.marks
            simp only [factC, fact0] at g4 gr4
            obtain ⟨hns, hN⟩ := R1 ns N k1
            obtain ⟨w1, rfl⟩ : ∃ w1, r = [w1] := by
              match r, hg with
              | [w1], _ => exact ⟨w1, rfl⟩
            subst hN
            simp only [List.map_cons, List.map_nil] at hns
            subst hns
            obtain ⟨bid, e1, e2, e4⟩ := SlO_str hO4 (by simp)
            simp only [List.map_cons, List.map_nil, List.length_cons, List.length_nil] at e1 e2
            rw [e1] at k10
            have v1' : (AV.sl bid 0 1 none).one = true := rfl
            simp (disch := first | omega | (simp only [List.length_cons, List.length_nil, true_and, and_true, nx_push, nx_put, nx_mark]; try omega)) only [go_sem, ↓reduceIte, Nat.reduceAdd, Nat.reduceMul, Nat.reduceSub, Int.reduceToNat, UInt8.reduceToNat, Nat.reduceLeDiff, Nat.reduceEqDiff, Nat.sub_zero, Int.add_zero, Int.zero_add, Nat.add_zero, Nat.zero_add, Nat.zero_mul, k2, k5, k10, g4, gr4, e2, hm4, res3ctt]
            exact fin1 _ (((Ext.mark hE4).put (id := H.next + 1 + 1) (by omega) (by simp only [nx_mark]; omega) _).put (id := H.next + 1) (by omega) (by simp only [nx_put, nx_mark]; omega) _) _ .nsl SlR.nil (R0 _ k1)
        · refine atW 167 rfl (RF1_loop (at_ := at_) (wv := v) (u := .nsl) (x := { fact0 with at_ := at_, kind := 2 }) (al := w0 :: r) (m := H.next) (n1 := H3.next) (bx := H.next) (o := H.next + 1 + 1) (rs := H.next + 1) (H0 := H.mark []) hln hlw rfl hv' ⟨by omega, by omega, by omega⟩ ⟨by omega, by omega, by omega⟩ ⟨by omega, by omega, by omega⟩ r 1 _ H3 .nsl [] 0 rfl (by simp only [List.length_cons]; omega) (Nat.le_refl _) hE3 (Nat.le_refl _) (by simp) d1 g3 d2 SlO.nil rfl rfl rfl rfl rfl rfl (fun q e f' H4 k1 k2 k3 k4 hE4 g4 => ?_) (fun ns N f' H4 v4 k1 k2 k5 k10 hE4 hn4 g4 gr4 hO4 => ?_))
          · have hm4 : H4.marks = [] := hE4.marks
            simp only [factC, fact0] at g4
            simp (disch := first | omega | (simp only [List.length_cons, List.length_nil, true_and, and_true, nx_push, nx_put, nx_mark]; try omega)) only [go_sem, ↓reduceIte, Nat.reduceAdd, Nat.reduceMul, Nat.reduceSub, Int.reduceToNat, UInt8.reduceToNat, Nat.reduceLeDiff, Nat.reduceEqDiff, Nat.sub_zero, Int.add_zero, Int.zero_add, Nat.add_zero, Nat.zero_add, Nat.zero_mul, k2, k3, k4, g4, hm4, res3ctt]
            exact fin0 _ (Ext.mark hE4) q e (R0 _ k1)
          · have hm4 : H4.marks = [] := hE4.marks
            simp only [factC, fact0] at g4 gr4
            obtain ⟨hns, hN⟩ := R1 ns N k1
            obtain ⟨w1, rfl⟩ : ∃ w1, r = [w1] := by
              match r, hg with
              | [w1], _ => exact ⟨w1, rfl⟩
            subst hN
            simp only [List.map_cons, List.map_nil] at hns
            subst hns
            obtain ⟨bid, e1, e2, e4⟩ := SlO_str hO4 (by simp)
            simp only [List.map_cons, List.map_nil, List.length_cons, List.length_nil] at e1 e2
            rw [e1] at k10
            have v1' : (AV.sl bid 0 1 none).one = true := rfl
            simp (disch := first | omega | (simp only [List.length_cons, List.length_nil, true_and, and_true, nx_push, nx_put, nx_mark]; try omega)) only [go_sem, ↓reduceIte, Nat.reduceAdd, Nat.reduceMul, Nat.reduceSub, Int.reduceToNat, UInt8.reduceToNat, Nat.reduceLeDiff, Nat.reduceEqDiff, Nat.sub_zero, Int.add_zero, Int.zero_add, Nat.add_zero, Nat.zero_add, Nat.zero_mul, k2, k5, k10, g4, gr4, e2, hm4, res3ctt]
            exact fin1 _ (((Ext.mark hE4).put (id := H.next + 1 + 1) (by omega) (by simp only [nx_mark]; omega) _).put (id := H.next + 1) (by omega) (by simp only [nx_put, nx_mark]; omega) _) _ .nsl SlR.nil (R0 _ k1)
        · refine atW 167 rfl (RF1_loop (at_ := at_) (wv := v) (u := .nsl) (x := { fact0 with at_ := at_, kind := 3 }) (al := w0 :: r) (m := H.next) (n1 := H3.next) (bx := H.next) (o := H.next + 1 + 1) (rs := H.next + 1) (H0 := H.mark []) hln hlw rfl hv' ⟨by omega, by omega, by omega⟩ ⟨by omega, by omega, by omega⟩ ⟨by omega, by omega, by omega⟩ r 1 _ H3 .nsl [] 0 rfl (by simp only [List.length_cons]; omega) (Nat.le_refl _) hE3 (Nat.le_refl _) (by simp) d1 g3 d2 SlO.nil rfl rfl rfl rfl rfl rfl (fun q e f' H4 k1 k2 k3 k4 hE4 g4 => ?_) (fun ns N f' H4 v4 k1 k2 k5 k10 hE4 hn4 g4 gr4 hO4 => ?_))
          · have hm4 : H4.marks = [] := hE4.marks
            simp only [factC, fact0] at g4
            simp (disch := first | omega | (simp only [List.length_cons, List.length_nil, true_and, and_true, nx_push, nx_put, nx_mark]; try omega)) only [go_sem, ↓reduceIte, Nat.reduceAdd, Nat.reduceMul, Nat.reduceSub, Int.reduceToNat, UInt8.reduceToNat, Nat.reduceLeDiff, Nat.reduceEqDiff, Nat.sub_zero, Int.add_zero, Int.zero_add, Nat.add_zero, Nat.zero_add, Nat.zero_mul, k2, k3, k4, g4, hm4, res3ctt]
            exact fin0 _ (Ext.mark hE4) q e (R0 _ k1)
          · have hm4 : H4.marks = [] := hE4.marks
            simp only [factC, fact0] at g4 gr4
            obtain ⟨hns, hN⟩ := R1 ns N k1
            obtain ⟨w1, w2, rfl⟩ : ∃ w1 w2, r = [w1, w2] := by
              match r, hg with
              | [w1, w2], _ => exact ⟨w1, w2, rfl⟩
            subst hN
            simp only [List.map_cons, List.map_nil] at hns
            subst hns
            obtain ⟨bid, e1, e2, e4⟩ := SlO_str hO4 (by simp)
            simp only [List.map_cons, List.map_nil, List.length_cons, List.length_nil] at e1 e2
            rw [e1] at k10
            have v1' : (AV.sl bid 0 2 none).one = true := rfl
            simp (disch := first | omega | (simp only [List.length_cons, List.length_nil, true_and, and_true, nx_push, nx_put, nx_mark]; try omega)) only [go_sem, ↓reduceIte, Nat.reduceAdd, Nat.reduceMul, Nat.reduceSub, Int.reduceToNat, UInt8.reduceToNat, Nat.reduceLeDiff, Nat.reduceEqDiff, Nat.sub_zero, Int.add_zero, Int.zero_add, Nat.add_zero, Nat.zero_add, Nat.zero_mul, k2, k5, k10, g4, gr4, e2, hm4, res3ctt]
            exact fin1 _ ((((Ext.mark hE4).put (id := H.next + 1 + 1) (by omega) (by simp only [nx_mark]; omega) _).put (id := H.next + 1 + 1) (by omega) (by simp only [nx_put, nx_mark]; omega) _).put (id := H.next + 1) (by omega) (by simp only [nx_put, nx_mark]; omega) _) _ .nsl SlR.nil (R0 _ k1)
        · refine atW 167 rfl (RF1_loop (at_ := at_) (wv := v) (u := .nsl) (x := { fact0 with at_ := at_, kind := 4 }) (al := w0 :: r) (m := H.next) (n1 := H3.next) (bx := H.next) (o := H.next + 1 + 1) (rs := H.next + 1) (H0 := H.mark []) hln hlw rfl hv' ⟨by omega, by omega, by omega⟩ ⟨by omega, by omega, by omega⟩ ⟨by omega, by omega, by omega⟩ r 1 _ H3 .nsl [] 0 rfl (by simp only [List.length_cons]; omega) (Nat.le_refl _) hE3 (Nat.le_refl _) (by simp) d1 g3 d2 SlO.nil rfl rfl rfl rfl rfl rfl (fun q e f' H4 k1 k2 k3 k4 hE4 g4 => ?_) (fun ns N f' H4 v4 k1 k2 k5 k10 hE4 hn4 g4 gr4 hO4 => ?_))
          · have hm4 : H4.marks = [] := hE4.marks
            simp only [factC, fact0] at g4
            simp (disch := first | omega | (simp only [List.length_cons, List.length_nil, true_and, and_true, nx_push, nx_put, nx_mark]; try omega)) only [go_sem, ↓reduceIte, Nat.reduceAdd, Nat.reduceMul, Nat.reduceSub, Int.reduceToNat, UInt8.reduceToNat, Nat.reduceLeDiff, Nat.reduceEqDiff, Nat.sub_zero, Int.add_zero, Int.zero_add, Nat.add_zero, Nat.zero_add, Nat.zero_mul, k2, k3, k4, g4, hm4, res3ctt]
            exact fin0 _ (Ext.mark hE4) q e (R0 _ k1)
          · have hm4 : H4.marks = [] := hE4.marks
            simp only [factC, fact0] at g4 gr4
            obtain ⟨hns, hN⟩ := R1 ns N k1
            obtain ⟨w1, w2, rfl⟩ : ∃ w1 w2, r = [w1, w2] := by
              match r, hg with
              | [w1, w2], _ => exact ⟨w1, w2, rfl⟩
            subst hN
            simp only [List.map_cons, List.map_nil] at hns
            subst hns
            obtain ⟨bid, e1, e2, e4⟩ := SlO_str hO4 (by simp)
            simp only [List.map_cons, List.map_nil, List.length_cons, List.length_nil] at e1 e2
            rw [e1] at k10
            have v1' : (AV.sl bid 0 2 none).one = true := rfl
            simp (disch := first | omega | (simp only [List.length_cons, List.length_nil, true_and, and_true, nx_push, nx_put, nx_mark]; try omega)) only [go_sem, ↓reduceIte, Nat.reduceAdd, Nat.reduceMul, Nat.reduceSub, Int.reduceToNat, UInt8.reduceToNat, Nat.reduceLeDiff, Nat.reduceEqDiff, Nat.sub_zero, Int.add_zero, Int.zero_add, Nat.add_zero, Nat.zero_add, Nat.zero_mul, k2, k5, k10, g4, gr4, e2, hm4, res3ctt]
            exact fin1 _ ((((Ext.mark hE4).put (id := H.next + 1 + 1) (by omega) (by simp only [nx_mark]; omega) _).put (id := H.next + 1 + 1) (by omega) (by simp only [nx_put, nx_mark]; omega) _).put (id := H.next + 1) (by omega) (by simp only [nx_put, nx_mark]; omega) _) _ .nsl SlR.nil (R0 _ k1)
        · refine atW 167 rfl (RF1_loop (at_ := at_) (wv := v) (u := .nsl) (x := { fact0 with at_ := at_, kind := 5 }) (al := w0 :: r) (m := H.next) (n1 := H3.next) (bx := H.next) (o := H.next + 1 + 1) (rs := H.next + 1) (H0 := H.mark []) hln hlw rfl hv' ⟨by omega, by omega, by omega⟩ ⟨by omega, by omega, by omega⟩ ⟨by omega, by omega, by omega⟩ r 1 _ H3 .nsl [] 0 rfl (by simp only [List.length_cons]; omega) (Nat.le_refl _) hE3 (Nat.le_refl _) (by simp) d1 g3 d2 SlO.nil rfl rfl rfl rfl rfl rfl (fun q e f' H4 k1 k2 k3 k4 hE4 g4 => ?_) (fun ns N f' H4 v4 k1 k2 k5 k10 hE4 hn4 g4 gr4 hO4 => ?_))
          · have hm4 : H4.marks = [] := hE4.marks
            simp only [factC, fact0] at g4
            simp (disch := first | omega | (simp only [List.length_cons, List.length_nil, true_and, and_true, nx_push, nx_put, nx_mark]; try omega)) only [go_sem, ↓reduceIte, Nat.reduceAdd, Nat.reduceMul, Nat.reduceSub, Int.reduceToNat, UInt8.reduceToNat, Nat.reduceLeDiff, Nat.reduceEqDiff, Nat.sub_zero, Int.add_zero, Int.zero_add, Nat.add_zero, Nat.zero_add, Nat.zero_mul, k2, k3, k4, g4, hm4, res3ctt]
            exact fin0 _ (Ext.mark hE4) q e (R0 _ k1)
          · have hm4 : H4.marks = [] := hE4.marks
            simp only [factC, fact0] at g4 gr4
            obtain ⟨hns, hN⟩ := R1 ns N k1
            obtain ⟨w1, w2, w3, rfl⟩ : ∃ w1 w2 w3, r = [w1, w2, w3] := by
              match r, hg with
              | [w1, w2, w3], _ => exact ⟨w1, w2, w3, rfl⟩
            subst hN
            simp only [List.map_cons, List.map_nil] at hns
            subst hns
            obtain ⟨bid, e1, e2, e4⟩ := SlO_str hO4 (by simp)
            simp only [List.map_cons, List.map_nil, List.length_cons, List.length_nil] at e1 e2
            rw [e1] at k10
            have v1' : (AV.sl bid 0 3 none).one = true := rfl
            simp (disch := first | omega | (simp only [List.length_cons, List.length_nil, true_and, and_true, nx_push, nx_put, nx_mark]; try omega)) only [go_sem, ↓reduceIte, Nat.reduceAdd, Nat.reduceMul, Nat.reduceSub, Int.reduceToNat, UInt8.reduceToNat, Nat.reduceLeDiff, Nat.reduceEqDiff, Nat.sub_zero, Int.add_zero, Int.zero_add, Nat.add_zero, Nat.zero_add, Nat.zero_mul, k2, k5, k10, g4, gr4, e2, hm4, res3ctt]
            refine w_dregA rfl rfl ?_
            simp (disch := first | omega | (simp only [List.length_cons, List.length_nil, true_and, and_true, nx_push, nx_put, nx_mark]; try omega)) only [go_sem, ↓reduceIte, Nat.reduceAdd, Nat.reduceMul, Nat.reduceSub, Int.reduceToNat, UInt8.reduceToNat, Nat.reduceLeDiff, Nat.reduceEqDiff, Nat.sub_zero, Int.add_zero, Int.zero_add, Nat.add_zero, Nat.zero_add, Nat.zero_mul, k2, k5, k10, g4, gr4, e2, hm4, res3ctt]
            exact fin1 _ (((((Ext.mark hE4).put (id := H.next + 1 + 1) (by omega) (by simp only [nx_mark]; omega) _).put (id := H.next + 1 + 1) (by omega) (by simp only [nx_put, nx_mark]; omega) _).put (id := H.next + 1 + 1) (by omega) (by simp only [nx_put, nx_mark]; omega) _).put (id := H.next + 1) (by omega) (by simp only [nx_put, nx_mark]; omega) _) _ .nsl SlR.nil (R0 _ k1)
        · refine atW 167 rfl (RF1_loop (at_ := at_) (wv := v) (u := .nsl) (x := { fact0 with at_ := at_, kind := 6 }) (al := w0 :: r) (m := H.next) (n1 := H3.next) (bx := H.next) (o := H.next + 1 + 1) (rs := H.next + 1) (H0 := H.mark []) hln hlw rfl hv' ⟨by omega, by omega, by omega⟩ ⟨by omega, by omega, by omega⟩ ⟨by omega, by omega, by omega⟩ r 1 _ H3 .nsl [] 0 rfl (by simp only [List.length_cons]; omega) (Nat.le_refl _) hE3 (Nat.le_refl _) (by simp) d1 g3 d2 SlO.nil rfl rfl rfl rfl rfl rfl (fun q e f' H4 k1 k2 k3 k4 hE4 g4 => ?_) (fun ns N f' H4 v4 k1 k2 k5 k10 hE4 hn4 g4 gr4 hO4 => ?_))
          · have hm4 : H4.marks = [] := hE4.marks
            simp only [factC, fact0] at g4
            simp (disch := first | omega | (simp only [List.length_cons, List.length_nil, true_and, and_true, nx_push, nx_put, nx_mark]; try omega)) only [go_sem, ↓reduceIte, Nat.reduceAdd, Nat.reduceMul, Nat.reduceSub, Int.reduceToNat, UInt8.reduceToNat, Nat.reduceLeDiff, Nat.reduceEqDiff, Nat.sub_zero, Int.add_zero, Int.zero_add, Nat.add_zero, Nat.zero_add, Nat.zero_mul, k2, k3, k4, g4, hm4, res3ctt]
            exact fin0 _ (Ext.mark hE4) q e (R0 _ k1)
          · have hm4 : H4.marks = [] := hE4.marks
            simp only [factC, fact0] at g4 gr4
            obtain ⟨a, L, rfl⟩ := rf_len r ns N k1 (by omega)
            obtain ⟨bid, e1, e2, e4⟩ := SlO_str hO4 (by simp)
            have hS : SlR 1 Rs (H4.put (H.next + 1 + 1) (AO.mem [AV.i IntKind.i64 6, AV.s a, AV.s [], AV.s [], AV.i IntKind.i64 N, AV.nsl, AV.i IntKind.i64 at_] 0 ty_api_Fact true 0)).get v4 (a :: L) := ((hO4.put (by omega)).read Rs_mono).mono Rs_mono sn_le
            obtain ⟨u, hu1, hu2⟩ := hS.slice (lo := some (.i .i64 1)) (hi := none) (l := 1) (k := (a :: L).length) rfl rfl (by simp) (Nat.le_refl _)
            have hu3 : SlR 1 Rs (H4.put (H.next + 1 + 1) (AO.mem [AV.i IntKind.i64 6, AV.s a, AV.s [], AV.s [], AV.i IntKind.i64 N, AV.nsl, AV.i IntKind.i64 at_] 0 ty_api_Fact true 0)).get u L := by simpa using hu2
            have uo := hu3.one
            have uc := cells_of_one uo
            have hid : ∀ id o' l' c', u = .sl id o' l' c' → id = bid := fun id o' l' c' e => by rw [e, e1] at hu1; exact slVA_id hu1
            simp only [List.map_cons, List.length_cons] at e1 e2
            rw [e1] at k10 hu1
            simp (disch := first | omega | (simp only [List.length_cons, List.length_nil, true_and, and_true, nx_push, nx_put, nx_mark]; try omega)) only [go_sem, ↓reduceIte, Nat.reduceAdd, Nat.reduceMul, Nat.reduceSub, Int.reduceToNat, UInt8.reduceToNat, Nat.reduceLeDiff, Nat.reduceEqDiff, Nat.sub_zero, Int.add_zero, Int.zero_add, Nat.add_zero, Nat.zero_add, Nat.zero_mul, k2, k5, k10, g4, gr4, e2, hm4, res3ctt, hu1, uo, uc]
            refine fin1 _ ((((Ext.mark hE4).put (id := H.next + 1 + 1) (by omega) (by simp only [nx_mark]; omega) _).put (id := H.next + 1 + 1) (by omega) (by simp only [nx_put, nx_mark]; omega) _).put (id := H.next + 1) (by omega) (by simp only [nx_put, nx_mark]; omega) _) ⟨6, a, [], [], N, L, at_⟩ u (SlR_at hu3 (fun id o' l' c' e => ?_)) (R0 _ k1)
            have := hid _ _ _ _ e
            subst this
            unfold sn
            rw [if_neg (by omega)]
            simp (disch := first | omega | (simp only [List.length_cons, List.length_nil, true_and, and_true, nx_push, nx_put, nx_mark]; try omega)) only [go_sem, ↓reduceIte, Nat.reduceAdd, Nat.reduceMul, Nat.reduceSub, Int.reduceToNat, UInt8.reduceToNat, Nat.reduceLeDiff, Nat.reduceEqDiff, Nat.sub_zero, Int.add_zero, Int.zero_add, Nat.add_zero, Nat.zero_add, Nat.zero_mul]
        · refine atW 167 rfl (RF1_loop (at_ := at_) (wv := v) (u := .nsl) (x := { fact0 with at_ := at_, kind := 7 }) (al := w0 :: r) (m := H.next) (n1 := H3.next) (bx := H.next) (o := H.next + 1 + 1) (rs := H.next + 1) (H0 := H.mark []) hln hlw rfl hv' ⟨by omega, by omega, by omega⟩ ⟨by omega, by omega, by omega⟩ ⟨by omega, by omega, by omega⟩ r 1 _ H3 .nsl [] 0 rfl (by simp only [List.length_cons]; omega) (Nat.le_refl _) hE3 (Nat.le_refl _) (by simp) d1 g3 d2 SlO.nil rfl rfl rfl rfl rfl rfl (fun q e f' H4 k1 k2 k3 k4 hE4 g4 => ?_) (fun ns N f' H4 v4 k1 k2 k5 k10 hE4 hn4 g4 gr4 hO4 => ?_))
          · have hm4 : H4.marks = [] := hE4.marks
            simp only [factC, fact0] at g4
            simp (disch := first | omega | (simp only [List.length_cons, List.length_nil, true_and, and_true, nx_push, nx_put, nx_mark]; try omega)) only [go_sem, ↓reduceIte, Nat.reduceAdd, Nat.reduceMul, Nat.reduceSub, Int.reduceToNat, UInt8.reduceToNat, Nat.reduceLeDiff, Nat.reduceEqDiff, Nat.sub_zero, Int.add_zero, Int.zero_add, Nat.add_zero, Nat.zero_add, Nat.zero_mul, k2, k3, k4, g4, hm4, res3ctt]
            exact fin0 _ (Ext.mark hE4) q e (R0 _ k1)
          · have hm4 : H4.marks = [] := hE4.marks
            simp only [factC, fact0] at g4 gr4
            obtain ⟨a, L, rfl⟩ := rf_len r ns N k1 (by omega)
            obtain ⟨bid, e1, e2, e4⟩ := SlO_str hO4 (by simp)
            have hS : SlR 1 Rs (H4.put (H.next + 1 + 1) (AO.mem [AV.i IntKind.i64 7, AV.s a, AV.s [], AV.s [], AV.i IntKind.i64 N, AV.nsl, AV.i IntKind.i64 at_] 0 ty_api_Fact true 0)).get v4 (a :: L) := ((hO4.put (by omega)).read Rs_mono).mono Rs_mono sn_le
            obtain ⟨u, hu1, hu2⟩ := hS.slice (lo := some (.i .i64 1)) (hi := none) (l := 1) (k := (a :: L).length) rfl rfl (by simp) (Nat.le_refl _)
            have hu3 : SlR 1 Rs (H4.put (H.next + 1 + 1) (AO.mem [AV.i IntKind.i64 7, AV.s a, AV.s [], AV.s [], AV.i IntKind.i64 N, AV.nsl, AV.i IntKind.i64 at_] 0 ty_api_Fact true 0)).get u L := by simpa using hu2
            have uo := hu3.one
            have uc := cells_of_one uo
            have hid : ∀ id o' l' c', u = .sl id o' l' c' → id = bid := fun id o' l' c' e => by rw [e, e1] at hu1; exact slVA_id hu1
            simp only [List.map_cons, List.length_cons] at e1 e2
            rw [e1] at k10 hu1
            simp (disch := first | omega | (simp only [List.length_cons, List.length_nil, true_and, and_true, nx_push, nx_put, nx_mark]; try omega)) only [go_sem, ↓reduceIte, Nat.reduceAdd, Nat.reduceMul, Nat.reduceSub, Int.reduceToNat, UInt8.reduceToNat, Nat.reduceLeDiff, Nat.reduceEqDiff, Nat.sub_zero, Int.add_zero, Int.zero_add, Nat.add_zero, Nat.zero_add, Nat.zero_mul, k2, k5, k10, g4, gr4, e2, hm4, res3ctt, hu1, uo, uc]
            refine fin1 _ ((((Ext.mark hE4).put (id := H.next + 1 + 1) (by omega) (by simp only [nx_mark]; omega) _).put (id := H.next + 1 + 1) (by omega) (by simp only [nx_put, nx_mark]; omega) _).put (id := H.next + 1) (by omega) (by simp only [nx_put, nx_mark]; omega) _) ⟨7, a, [], [], N, L, at_⟩ u (SlR_at hu3 (fun id o' l' c' e => ?_)) (R0 _ k1)
            have := hid _ _ _ _ e
            subst this
            unfold sn
            rw [if_neg (by omega)]
            simp (disch := first | omega | (simp only [List.length_cons, List.length_nil, true_and, and_true, nx_push, nx_put, nx_mark]; try omega)) only [go_sem, ↓reduceIte, Nat.reduceAdd, Nat.reduceMul, Nat.reduceSub, Int.reduceToNat, UInt8.reduceToNat, Nat.reduceLeDiff, Nat.reduceEqDiff, Nat.sub_zero, Int.add_zero, Int.zero_add, Nat.add_zero, Nat.zero_add, Nat.zero_mul]
        · refine atW 167 rfl (RF1_loop (at_ := at_) (wv := v) (u := .nsl) (x := { fact0 with at_ := at_, kind := 8 }) (al := w0 :: r) (m := H.next) (n1 := H3.next) (bx := H.next) (o := H.next + 1 + 1) (rs := H.next + 1) (H0 := H.mark []) hln hlw rfl hv' ⟨by omega, by omega, by omega⟩ ⟨by omega, by omega, by omega⟩ ⟨by omega, by omega, by omega⟩ r 1 _ H3 .nsl [] 0 rfl (by simp only [List.length_cons]; omega) (Nat.le_refl _) hE3 (Nat.le_refl _) (by simp) d1 g3 d2 SlO.nil rfl rfl rfl rfl rfl rfl (fun q e f' H4 k1 k2 k3 k4 hE4 g4 => ?_) (fun ns N f' H4 v4 k1 k2 k5 k10 hE4 hn4 g4 gr4 hO4 => ?_))
          · have hm4 : H4.marks = [] := hE4.marks
            simp only [factC, fact0] at g4
            simp (disch := first | omega | (simp only [List.length_cons, List.length_nil, true_and, and_true, nx_push, nx_put, nx_mark]; try omega)) only [go_sem, ↓reduceIte, Nat.reduceAdd, Nat.reduceMul, Nat.reduceSub, Int.reduceToNat, UInt8.reduceToNat, Nat.reduceLeDiff, Nat.reduceEqDiff, Nat.sub_zero, Int.add_zero, Int.zero_add, Nat.add_zero, Nat.zero_add, Nat.zero_mul, k2, k3, k4, g4, hm4, res3ctt]
            exact fin0 _ (Ext.mark hE4) q e (R0 _ k1)
          · have hm4 : H4.marks = [] := hE4.marks
            simp only [factC, fact0] at g4 gr4
            obtain ⟨hns, hN⟩ := R1 ns N k1
            obtain ⟨w1, w2, t, rfl⟩ : ∃ w1 w2 t, r = w1 :: w2 :: t := by
              match r, hg with
              | w1 :: w2 :: t, _ => exact ⟨w1, w2, t, rfl⟩
              | [_], hg => simp at hg
              | [], hg => simp at hg
            subst hN
            simp only [List.map_cons] at hns
            generalize hL : t.map (fun w => w.1) = L at hns
            subst hns
            obtain ⟨bid, e1, e2, e4⟩ := SlO_str hO4 (by simp)
            have hS : SlR 1 Rs (H4.put (H.next + 1 + 1) (AO.mem [AV.i IntKind.i64 8, AV.s w1.1, AV.s [], AV.s [], AV.i IntKind.i64 0, AV.nsl, AV.i IntKind.i64 at_] 0 ty_api_Fact true 0)).get v4 (w1.1 :: w2.1 :: L) := ((hO4.put (by omega)).read Rs_mono).mono Rs_mono sn_le
            obtain ⟨u, hu1, hu2⟩ := hS.slice (lo := some (.i .i64 2)) (hi := none) (l := 2) (k := (w1.1 :: w2.1 :: L).length) rfl rfl (by simp) (Nat.le_refl _)
            have hu3 : SlR 1 Rs (H4.put (H.next + 1 + 1) (AO.mem [AV.i IntKind.i64 8, AV.s w1.1, AV.s [], AV.s [], AV.i IntKind.i64 0, AV.nsl, AV.i IntKind.i64 at_] 0 ty_api_Fact true 0)).get u L := by simpa using hu2
            have uo := hu3.one
            have uc := cells_of_one uo
            have hid : ∀ id o' l' c', u = .sl id o' l' c' → id = bid := fun id o' l' c' e => by rw [e, e1] at hu1; exact slVA_id hu1
            simp only [List.map_cons, List.length_cons] at e1 e2
            rw [e1] at k10 hu1
            simp (disch := first | omega | (simp only [List.length_cons, List.length_nil, true_and, and_true, nx_push, nx_put, nx_mark]; try omega)) only [go_sem, ↓reduceIte, Nat.reduceAdd, Nat.reduceMul, Nat.reduceSub, Int.reduceToNat, UInt8.reduceToNat, Nat.reduceLeDiff, Nat.reduceEqDiff, Nat.sub_zero, Int.add_zero, Int.zero_add, Nat.add_zero, Nat.zero_add, Nat.zero_mul, k2, k5, k10, g4, gr4, e2, hm4, res3ctt, hu1, uo, uc]
            refine w_dregA rfl rfl ?_
            simp (disch := first | omega | (simp only [List.length_cons, List.length_nil, true_and, and_true, nx_push, nx_put, nx_mark]; try omega)) only [go_sem, ↓reduceIte, Nat.reduceAdd, Nat.reduceMul, Nat.reduceSub, Int.reduceToNat, UInt8.reduceToNat, Nat.reduceLeDiff, Nat.reduceEqDiff, Nat.sub_zero, Int.add_zero, Int.zero_add, Nat.add_zero, Nat.zero_add, Nat.zero_mul, k2, k5, k10, g4, gr4, e2, hm4, res3ctt, hu1, uo, uc]
            refine ⟨by rw [slVA_cong (H' := H4.put (H.next + 1 + 1) (AO.mem [AV.i IntKind.i64 8, AV.s w1.1, AV.s [], AV.s [], AV.i IntKind.i64 0, AV.nsl, AV.i IntKind.i64 at_] 0 ty_api_Fact true 0)) (by simp (disch := first | omega | (simp only [List.length_cons, List.length_nil, true_and, and_true, nx_push, nx_put, nx_mark]; try omega)) only [go_sem, ↓reduceIte, Nat.reduceAdd, Nat.reduceMul, Nat.reduceSub, Int.reduceToNat, UInt8.reduceToNat, Nat.reduceLeDiff, Nat.reduceEqDiff, Nat.sub_zero, Int.add_zero, Int.zero_add, Nat.add_zero, Nat.zero_add, Nat.zero_mul]), hu1]; simp (disch := first | omega | (simp only [List.length_cons, List.length_nil, true_and, and_true, nx_push, nx_put, nx_mark]; try omega)) only [go_sem, ↓reduceIte, Nat.reduceAdd, Nat.reduceMul, Nat.reduceSub, Int.reduceToNat, UInt8.reduceToNat, Nat.reduceLeDiff, Nat.reduceEqDiff, Nat.sub_zero, Int.add_zero, Int.zero_add, Nat.add_zero, Nat.zero_add, Nat.zero_mul], ?_⟩
            refine fin1 _ (((((Ext.mark hE4).put (id := H.next + 1 + 1) (by omega) (by simp only [nx_mark]; omega) _).put (id := H.next + 1 + 1) (by omega) (by simp only [nx_put, nx_mark]; omega) _).put (id := H.next + 1 + 1) (by omega) (by simp only [nx_put, nx_mark]; omega) _).put (id := H.next + 1) (by omega) (by simp only [nx_put, nx_mark]; omega) _) ⟨8, w1.1, w2.1, [], 0, L, at_⟩ u (SlR_at hu3 (fun id o' l' c' e => ?_)) ((R0 _ k1).trans (by simp only [mkF]; rfl))
            have := hid _ _ _ _ e
            subst this
            unfold sn
            rw [if_neg (by omega)]
            simp (disch := first | omega | (simp only [List.length_cons, List.length_nil, true_and, and_true, nx_push, nx_put, nx_mark]; try omega)) only [go_sem, ↓reduceIte, Nat.reduceAdd, Nat.reduceMul, Nat.reduceSub, Int.reduceToNat, UInt8.reduceToNat, Nat.reduceLeDiff, Nat.reduceEqDiff, Nat.sub_zero, Int.add_zero, Int.zero_add, Nat.add_zero, Nat.zero_add, Nat.zero_mul]
end Go.Fw.Ro
end
section
/- The document's facts of a text. -/
namespace Go.Fw.Ro
open Go Go.Fw Go.Fw.Sys
set_option maxRecDepth 100000
variable {H : Mem} {K : AV → Mem → Prop}
theorem RParse_loop {v : AV} {ls : List LineT} {H0 : Mem} {Q : Ex → Tr → Mem → Prop} (hw0 : Wf H0) (hv : SlR 2 Rline H0.get v ls) (hln : ls.length ≤ 1000000) (hok : ∀ l ∈ ls, lineOk l) :
    ∀ (r : List LineT) (i : Nat) (f : Nat → AV) (H : Mem) (u : AV) (acc : List FactT), ls.drop i = r → i + r.length = ls.length → acc.length = i → i ≤ 2000 → Ext H0.next H0 H → SlO 7 ty_api_Fact Rfact H0.next H u acc → f 5 = v → f 8 = u → f 9 = .i .i64 i →
    (∀ q e f' H', goF i r acc = ([], q, e) → f' 2 = .nsl → f' 3 = .i .i64 q → f' 4 = .i .i64 e → Ext H0.next H0 H' → Q .rt (trO 54 f') H') →
    (∀ l f' u' H', goF i r acc = (l, 0, 0) → f' 8 = u' → SlO 7 ty_api_Fact Rfact H0.next H' u' l → Ext H0.next H0 H' → Q (.ex 0) (trO 54 f') H') → @W S false (.loop lp_entailref13_Parse_0) (trO 54 f) H ⟨Q⟩ := by
  intro r
  have ll := hv.len
  induction r with
  | nil =>
    intro i f H u acc hr hi ha h2k hx hO f5 f8 f9 k1 k2
    simp at hi
    rw [w_loop]
    unfold lp_entailref13_Parse_0
    simp (disch := first | omega | (simp only [List.length_cons, List.length_nil, true_and, and_true, nx_push, nx_put, nx_mark]; try omega)) only [go_sem, ↓reduceIte, Nat.reduceAdd, Nat.reduceMul, Nat.reduceSub, Int.reduceToNat, UInt8.reduceToNat, Nat.reduceLeDiff, Nat.reduceEqDiff, Nat.sub_zero, Int.add_zero, Int.zero_add, Nat.add_zero, Nat.zero_add, Nat.zero_mul, f5, f8, f9, ll]
    exact atQ 54 rfl (k2 acc _ u H rfl rfl hO hx)
  | cons x r ih =>
    intro i f H u acc hr hi ha h2k hx hO f5 f8 f9 k1 k2
    simp at hi
    have hxi : ls[i]? = some x := by rw [← List.head?_drop, hr]; rfl
    have hr1 : ls.drop (i + 1) = r := by rw [← List.drop_drop, hr]; rfl
    obtain ⟨ok1, ok2⟩ := hok x (List.mem_of_getElem? hxi)
    obtain ⟨id, p, c, y1, y2, y3, y4, y5, y6⟩ := (hv.mono Rline_mono (le_up hx hw0 (Nat.le_refl _))).at_ hxi
    obtain ⟨w, rfl, hwr⟩ := y2
    have w1 := hwr.one
    have hid := hx.wf id y6
    have hn0 := hx.next
    have y3' : ldO (H.get id) false 1 p = some (.i .i64 x.1) := y3 0 (by omega)
    rw [w_loop]
    unfold lp_entailref13_Parse_0
    by_cases h1 : i = 2000
    · have h1' : (i : Int) = 2000 := by omega
      simp (disch := first | omega | (simp only [List.length_cons, List.length_nil, true_and, and_true, nx_push, nx_put, nx_mark]; try omega)) only [go_sem, ↓reduceIte, Nat.reduceAdd, Nat.reduceMul, Nat.reduceSub, Int.reduceToNat, UInt8.reduceToNat, Nat.reduceLeDiff, Nat.reduceEqDiff, Nat.sub_zero, Int.add_zero, Int.zero_add, Nat.add_zero, Nat.zero_add, Nat.zero_mul, f5, f8, f9, ll, h1']
      refine w_dregA rfl rfl ?_
      rw [h1'] at y1
      simp (disch := first | omega | (simp only [List.length_cons, List.length_nil, true_and, and_true, nx_push, nx_put, nx_mark]; try omega)) only [go_sem, ↓reduceIte, Nat.reduceAdd, Nat.reduceMul, Nat.reduceSub, Int.reduceToNat, UInt8.reduceToNat, Nat.reduceLeDiff, Nat.reduceEqDiff, Nat.sub_zero, Int.add_zero, Int.zero_add, Nat.add_zero, Nat.zero_add, Nat.zero_mul, f5, f8, f9, ll, y1, y3']
      exact atQ 54 rfl (k1 x.1 8 _ H (by rw [goF, if_pos (by omega)]) rfl rfl rfl hx)
    · have h1' : ¬ (i : Int) = 2000 := by omega
      have hg : goF i (x :: r) acc = if (factF x).2.2 = 0 then goF (i + 1) r (acc ++ [(factF x).1]) else ([], (factF x).2.1, (factF x).2.2) := by rw [goF, if_neg (by omega)]
      simp (disch := first | omega | (simp only [List.length_cons, List.length_nil, true_and, and_true, nx_push, nx_put, nx_mark]; try omega)) only [go_sem, ↓reduceIte, Nat.reduceAdd, Nat.reduceMul, Nat.reduceSub, Int.reduceToNat, UInt8.reduceToNat, Nat.reduceLeDiff, Nat.reduceEqDiff, Nat.sub_zero, Int.add_zero, Int.zero_add, Nat.add_zero, Nat.zero_add, Nat.zero_mul, f5, f8, f9, ll, h1', y1, y4, w1]
      refine RFact_run (at_ := x.1) (hwr) hx.wf ok1 ok2 (fun c H2 x2 hc => ?_)
      rw [show ((x.1, x.2) : LineT) = x from rfl] at hc ⊢
      obtain ⟨g, rfl, gr⟩ := hc
      have g1 := gr.one
      have n2 := x2.next
      have hx2 := hx.trans x2 (by omega)
      simp only [factC]
      by_cases he : (factF x).2.2 = 0
      · rw [if_pos he] at hg
        simp (disch := first | omega | (simp only [List.length_cons, List.length_nil, true_and, and_true, nx_push, nx_put, nx_mark]; try omega)) only [go_sem, ↓reduceIte, Nat.reduceAdd, Nat.reduceMul, Nat.reduceSub, Int.reduceToNat, UInt8.reduceToNat, Nat.reduceLeDiff, Nat.reduceEqDiff, Nat.sub_zero, Int.add_zero, Int.zero_add, Nat.add_zero, Nat.zero_add, Nat.zero_mul, he, g1]
        have k : Ext H.next H ((H2.push (AO.mem [AV.i IntKind.i64 0, AV.s [], AV.s [], AV.s [], AV.i IntKind.i64 0, AV.nsl, AV.i IntKind.i64 0] 0 ty_api_Fact true 0)).put H2.next (AO.mem (factC (factF x).1 g) 0 ty_api_Fact true 0)) := (x2.push _ (by first | omega | (simp only [nx_push, nx_put, nx_mark]; try omega))).put (by first | omega | (simp only [nx_push, nx_put, nx_mark]; try omega)) (by first | omega | (simp only [nx_push, nx_put, nx_mark]; try omega)) _
        refine onE_of (SlO.app1 (x := (factF x).1) (c := factC (factF x).1 g) Rfact_mono hO hx.wf hn0 k rfl (by simp only [factC, List.all_cons, g1]; rfl) ⟨g, rfl, gr.mono Rs_mono ((sn_down (by omega)).trans (sn_up (((Ext.refl x2.wf (n := H2.next)).push _ (Nat.le_refl _)).put (Nat.le_refl _) (by first | omega | (simp only [nx_push, nx_put, nx_mark]; try omega)) _) x2.wf (Nat.le_refl _)))⟩ (by omega) ?_ ?_ ?_) (fun v' H3 hh => ?_)
        · rfl
        · omega
        · omega
        obtain ⟨hO3, hX3, hN3⟩ := hh
        have v1 := hO3.one
        simp (disch := first | omega | (simp only [List.length_cons, List.length_nil, true_and, and_true, nx_push, nx_put, nx_mark]; try omega)) only [go_sem, ↓reduceIte, Nat.reduceAdd, Nat.reduceMul, Nat.reduceSub, Int.reduceToNat, UInt8.reduceToNat, Nat.reduceLeDiff, Nat.reduceEqDiff, Nat.sub_zero, Int.add_zero, Int.zero_add, Nat.add_zero, Nat.zero_add, Nat.zero_mul, v1]
        refine atW 54 rfl (ih (i + 1) _ H3 v' _ hr1 (by omega) (by simp [ha]) (by omega) (hx.trans hX3 (Nat.le_refl _)) hO3 rfl rfl rfl (fun q e f' H' a => k1 q e f' H' (hg.trans a)) (fun l f' u' H' a => k2 l f' u' H' (hg.trans a)))
      · rw [if_neg he] at hg
        simp (disch := first | omega | (simp only [List.length_cons, List.length_nil, true_and, and_true, nx_push, nx_put, nx_mark]; try omega)) only [go_sem, ↓reduceIte, Nat.reduceAdd, Nat.reduceMul, Nat.reduceSub, Int.reduceToNat, UInt8.reduceToNat, Nat.reduceLeDiff, Nat.reduceEqDiff, Nat.sub_zero, Int.add_zero, Int.zero_add, Nat.add_zero, Nat.zero_add, Nat.zero_mul, he, g1]
        exact atQ 54 rfl (k1 _ _ _ _ hg rfl rfl rfl ((hx2.push _ (by first | omega | (simp only [nx_push, nx_put, nx_mark]; try omega))).put (by first | omega | (simp only [nx_push, nx_put, nx_mark]; try omega)) (by first | omega | (simp only [nx_push, nx_put, nx_mark]; try omega)) _))
theorem RParse_run {s : List UInt8} (hs : s.length ≤ 1000000) (hw : Wf H) (h : ∀ v H', Ext H.next H H' → SlR 7 Rfact (sn H.next H') v (parseF s).1 → K (.tup [v, .i .i64 (parseF s).2.1, .i .i64 (parseF s).2.2]) H') : @R S (.f n_entailref13_Parse) [.s s] H ⟨K⟩ := by
  refine run_fn2 rfl rfl ?_
  unfold bd_entailref13_Parse
  simp (disch := first | omega | (simp only [List.length_cons, List.length_nil, true_and, and_true, nx_push, nx_put, nx_mark]; try omega)) only [go_sem, ↓reduceIte, Nat.reduceAdd, Nat.reduceMul, Nat.reduceSub, Int.reduceToNat, UInt8.reduceToNat, Nat.reduceLeDiff, Nat.reduceEqDiff, Nat.sub_zero, Int.add_zero, Int.zero_add, Nat.add_zero, Nat.zero_add, Nat.zero_mul]
  refine RLines_run (H := H.mark []) hs hw (fun v H1 x1 hv => ?_)
  have hm1 : H1.marks = [] := x1.marks
  have hok := linesOf_ok s
  have v1 := hv.one
  by_cases he : (linesOf s).2.2 = 0
  · have e : parseF s = goF 0 (linesOf s).1 [] := by rw [parseF, if_pos he]
    rw [e] at h
    have l1 := hv.len
    simp (disch := first | omega | (simp only [List.length_cons, List.length_nil, true_and, and_true, nx_push, nx_put, nx_mark]; try omega)) only [go_sem, ↓reduceIte, Nat.reduceAdd, Nat.reduceMul, Nat.reduceSub, Int.reduceToNat, UInt8.reduceToNat, Nat.reduceLeDiff, Nat.reduceEqDiff, Nat.sub_zero, Int.add_zero, Int.zero_add, Nat.add_zero, Nat.zero_add, Nat.zero_mul, v1, he, l1]
    refine atW 54 rfl (RParse_loop (H0 := H1) x1.wf (hv.mono Rline_mono sn_le) hok.2 hok.1 (linesOf s).1 0 _ H1 .nsl [] rfl (by simp) rfl (by omega) (Ext.refl x1.wf) SlO.nil rfl rfl rfl (fun q e f' H' a b2 b3 b4 c => ?_) (fun l f' u' H' a b c d => ?_))
    · have hm' : H'.marks = [] := c.marks.trans hm1
      rw [a] at h
      simp (disch := first | omega | (simp only [List.length_cons, List.length_nil, true_and, and_true, nx_push, nx_put, nx_mark]; try omega)) only [go_sem, ↓reduceIte, Nat.reduceAdd, Nat.reduceMul, Nat.reduceSub, Int.reduceToNat, UInt8.reduceToNat, Nat.reduceLeDiff, Nat.reduceEqDiff, Nat.sub_zero, Int.add_zero, Int.zero_add, Nat.add_zero, Nat.zero_add, Nat.zero_mul, b2, b3, b4, hm']
      exact h _ _ (Ext.mark (x1.trans c x1.next)) SlR.nil
    · have hm' : H'.marks = [] := d.marks.trans hm1
      rw [a] at h
      have u1 := c.one
      simp (disch := first | omega | (simp only [List.length_cons, List.length_nil, true_and, and_true, nx_push, nx_put, nx_mark]; try omega)) only [go_sem, ↓reduceIte, Nat.reduceAdd, Nat.reduceMul, Nat.reduceSub, Int.reduceToNat, UInt8.reduceToNat, Nat.reduceLeDiff, Nat.reduceEqDiff, Nat.sub_zero, Int.add_zero, Int.zero_add, Nat.add_zero, Nat.zero_add, Nat.zero_mul, b, hm', u1]
      exact h _ _ (Ext.mark (x1.trans d x1.next)) ((c.down Rfact_mono x1.next).read Rfact_mono)
  · have e : parseF s = ([], (linesOf s).2.1, (linesOf s).2.2) := by rw [parseF, if_neg he]
    rw [e] at h
    simp (disch := first | omega | (simp only [List.length_cons, List.length_nil, true_and, and_true, nx_push, nx_put, nx_mark]; try omega)) only [go_sem, ↓reduceIte, Nat.reduceAdd, Nat.reduceMul, Nat.reduceSub, Int.reduceToNat, UInt8.reduceToNat, Nat.reduceLeDiff, Nat.reduceEqDiff, Nat.sub_zero, Int.add_zero, Int.zero_add, Nat.add_zero, Nat.zero_add, Nat.zero_mul, v1, he, hm1]
    exact h _ _ (Ext.mark x1) SlR.nil
theorem SameAt_loop {v w : AV} {xs : List FactT} {Q : Ex → Tr → Mem → Prop} (hv : SlR 7 Rfact H.get v xs) (hw : SlR 7 Rfact H.get w xs) (hn : xs.length ≤ 1000000) : ∀ (r : List FactT) (i : Nat) (f : Nat → AV), xs.drop i = r → i + r.length = xs.length → f 0 = v → f 1 = w → f 5 = .i .i64 i →
    (∀ f', Q (.ex 0) (trO 27 f') H) → @W S false (.loop lp_entaillaw13_SameAt_0) (trO 27 f) H ⟨Q⟩ := by
  intro r
  have l1 := hv.len
  induction r with
  | nil =>
    intro i f h1 h3 f0 f1 f5 k
    simp at h3
    rw [w_loop]
    unfold lp_entaillaw13_SameAt_0
    simp (disch := first | omega | (simp only [List.length_cons, List.length_nil, true_and, and_true, nx_push, nx_put, nx_mark]; try omega)) only [go_sem, ↓reduceIte, Nat.reduceAdd, Nat.reduceMul, Nat.reduceSub, Int.reduceToNat, UInt8.reduceToNat, Nat.reduceLeDiff, Nat.reduceEqDiff, Nat.sub_zero, Int.add_zero, Int.zero_add, Nat.add_zero, Nat.zero_add, Nat.zero_mul, f0, f1, f5, l1]
    exact atQ 27 rfl (k _)
  | cons x r ih =>
    intro i f h1 h3 f0 f1 f5 k
    simp at h3
    have hx : xs[i]? = some x := by rw [← List.head?_drop, h1]; rfl
    have hr1 : xs.drop (i + 1) = r := by rw [← List.drop_drop, h1]; rfl
    obtain ⟨id, p, c, y1, y2, y3, y4, y5, y6⟩ := hv.at_ hx
    obtain ⟨jd, q, d, z1, z2, z3, z4, z5, z6⟩ := hw.at_ hx
    obtain ⟨g, rfl, gr⟩ := y2
    obtain ⟨g', rfl, gr'⟩ := z2
    have y7 : ldO (H.get id) false 1 (p + 6) = some (.i .i64 x.at_) := y3 6 (by omega)
    have z7 : ldO (H.get jd) false 1 (q + 6) = some (.i .i64 x.at_) := z3 6 (by omega)
    rw [w_loop]
    unfold lp_entaillaw13_SameAt_0
    simp (disch := first | omega | (simp only [List.length_cons, List.length_nil, true_and, and_true, nx_push, nx_put, nx_mark]; try omega)) only [go_sem, ↓reduceIte, Nat.reduceAdd, Nat.reduceMul, Nat.reduceSub, Int.reduceToNat, UInt8.reduceToNat, Nat.reduceLeDiff, Nat.reduceEqDiff, Nat.sub_zero, Int.add_zero, Int.zero_add, Nat.add_zero, Nat.zero_add, Nat.zero_mul, f0, f1, f5, l1]
    refine w_dregA rfl rfl ?_
    simp (disch := first | omega | (simp only [List.length_cons, List.length_nil, true_and, and_true, nx_push, nx_put, nx_mark]; try omega)) only [go_sem, ↓reduceIte, Nat.reduceAdd, Nat.reduceMul, Nat.reduceSub, Int.reduceToNat, UInt8.reduceToNat, Nat.reduceLeDiff, Nat.reduceEqDiff, Nat.sub_zero, Int.add_zero, Int.zero_add, Nat.add_zero, Nat.zero_add, Nat.zero_mul, f0, f1, f5, y1, y7, z1, z7]
    refine atW 27 rfl (ih (i + 1) _ hr1 (by omega) rfl rfl rfl k)
theorem SameAt_run {v w : AV} {xs : List FactT} (hv : SlR 7 Rfact H.get v xs) (hy : SlR 7 Rfact H.get w xs) (hw : Wf H) (hn : xs.length ≤ 1000000) (hL : ∀ x ∈ xs, x.L.length ≤ 1000000) (h : ∀ H', Ext H.next H H' → K (.b true) H') : @R S (.f n_entaillaw13_SameAt) [v, w] H ⟨K⟩ := by
  refine run_fn2 rfl rfl ?_
  unfold bd_entaillaw13_SameAt
  simp (disch := first | omega | (simp only [List.length_cons, List.length_nil, true_and, and_true, nx_push, nx_put, nx_mark]; try omega)) only [go_sem, ↓reduceIte, Nat.reduceAdd, Nat.reduceMul, Nat.reduceSub, Int.reduceToNat, UInt8.reduceToNat, Nat.reduceLeDiff, Nat.reduceEqDiff, Nat.sub_zero, Int.add_zero, Int.zero_add, Nat.add_zero, Nat.zero_add, Nat.zero_mul]
  refine SFacts_run (H := H.mark []) hv hy hw hn hL (fun H1 x1 => ?_)
  rw [eqFs_refl]
  have hv1 := hv.mono Rfact_mono (le_up (H := H.mark []) x1 hw (Nat.le_refl _))
  have hy1 := hy.mono Rfact_mono (le_up (H := H.mark []) x1 hw (Nat.le_refl _))
  have hm1 : H1.marks = [] := x1.marks
  simp (disch := first | omega | (simp only [List.length_cons, List.length_nil, true_and, and_true, nx_push, nx_put, nx_mark]; try omega)) only [go_sem, ↓reduceIte, Nat.reduceAdd, Nat.reduceMul, Nat.reduceSub, Int.reduceToNat, UInt8.reduceToNat, Nat.reduceLeDiff, Nat.reduceEqDiff, Nat.sub_zero, Int.add_zero, Int.zero_add, Nat.add_zero, Nat.zero_add, Nat.zero_mul]
  refine atW 27 rfl (SameAt_loop hv1 hy1 hn xs 0 _ rfl (by omega) rfl rfl rfl (fun f' => ?_))
  simp (disch := first | omega | (simp only [List.length_cons, List.length_nil, true_and, and_true, nx_push, nx_put, nx_mark]; try omega)) only [go_sem, ↓reduceIte, Nat.reduceAdd, Nat.reduceMul, Nat.reduceSub, Int.reduceToNat, UInt8.reduceToNat, Nat.reduceLeDiff, Nat.reduceEqDiff, Nat.sub_zero, Int.add_zero, Int.zero_add, Nat.add_zero, Nat.zero_add, Nat.zero_mul, hm1]
  exact h _ (Ext.mark x1)
theorem and_8 (a : Nat) (ha : a < 256) : ∃ r : Nat, r ≤ 15 ∧ binA .and .int (.i .u8 (a : Int)) (.i .u8 15) = some (.i .u8 (r : Int)) := by
  rw [bin_and]
  have h : (BitVec.ofInt (IntKind.bits .u8) (a : Int) &&& BitVec.ofInt (IntKind.bits .u8) (15 : Int)).toNat ≤ 15 := by
    rw [BitVec.toNat_and]
    refine Nat.le_trans Nat.and_le_right ?_
    simp only [BitVec.toNat_ofInt]
    decide
  exact ⟨_, h, by rw [wrap_u8 (by omega) (by omega)]⟩
theorem Tame_loop {s : List UInt8} {H0 : Mem} {Q : Ex → Tr → Mem → Prop} (hs : s.length ≤ 1000000) : ∀ (n i : Nat) (f : Nat → AV) (H : Mem) (t : List UInt8), i + n = 101 → i ≤ s.length → Ext H0.next H0 H → t.length ≤ 5 * i → f 0 = .s s → f 3 = .s t → f 4 = .i .i64 i →
    (∀ f' H' t', f' 3 = .s t' → t'.length ≤ 600 → Ext H0.next H0 H' → Q (.ex 0) (trO 25 f') H') → @W S false (.loop lp_entaillaw12_Tame_0) (trO 25 f) H ⟨Q⟩ := by
  intro n
  have stop : ∀ (i : Nat) (f : Nat → AV) (H : Mem) (t : List UInt8), i ≤ 101 → ¬ (i < s.length ∧ i < 100) → Ext H0.next H0 H → t.length ≤ 5 * i → f 0 = .s s → f 3 = .s t → f 4 = .i .i64 i →
      (∀ f' H' t', f' 3 = .s t' → t'.length ≤ 600 → Ext H0.next H0 H' → Q (.ex 0) (trO 25 f') H') → @W S false (.loop lp_entaillaw12_Tame_0) (trO 25 f) H ⟨Q⟩ := by
    intro i f H t hi hh hE ht f0 f3 f4 k
    rw [w_loop]
    unfold lp_entaillaw12_Tame_0
    by_cases h1 : i < s.length
    · have h2 : ¬ i < 100 := fun h2 => hh ⟨h1, h2⟩
      simp (disch := first | omega | (simp only [List.length_cons, List.length_nil, true_and, and_true, nx_push, nx_put, nx_mark]; try omega)) only [go_sem, ↓reduceIte, Nat.reduceAdd, Nat.reduceMul, Nat.reduceSub, Int.reduceToNat, UInt8.reduceToNat, Nat.reduceLeDiff, Nat.reduceEqDiff, Nat.sub_zero, Int.add_zero, Int.zero_add, Nat.add_zero, Nat.zero_add, Nat.zero_mul, f0, f3, f4]
      exact atQ 25 rfl (k _ H t rfl (by omega) hE)
    · simp (disch := first | omega | (simp only [List.length_cons, List.length_nil, true_and, and_true, nx_push, nx_put, nx_mark]; try omega)) only [go_sem, ↓reduceIte, Nat.reduceAdd, Nat.reduceMul, Nat.reduceSub, Int.reduceToNat, UInt8.reduceToNat, Nat.reduceLeDiff, Nat.reduceEqDiff, Nat.sub_zero, Int.add_zero, Int.zero_add, Nat.add_zero, Nat.zero_add, Nat.zero_mul, f0, f3, f4]
      exact atQ 25 rfl (k _ H t rfl (by omega) hE)
  induction n with
  | zero =>
    intro i f H t hi hi2 hE ht f0 f3 f4 k
    exact stop i f H t (by omega) (by omega) hE ht f0 f3 f4 k
  | succ n ih =>
    intro i f H t hi hi2 hE ht f0 f3 f4 k
    by_cases hh : i < s.length ∧ i < 100
    · obtain ⟨hlt, h100⟩ := hh
      obtain ⟨c, hc⟩ : ∃ c, s[i]? = some c := ⟨s[i], List.getElem?_eq_getElem hlt⟩
      obtain ⟨r1, h1, e1⟩ := and_8 c.toNat c.toNat_lt
      obtain ⟨u, lu, ju⟩ : ∃ u : List UInt8, u.length ≤ 5 ∧ [AV.s [97], AV.s [98], AV.s [32], AV.s [9], AV.s [10], AV.s [13, 10], AV.s [35], AV.s [32, 35], AV.s [117, 115, 101, 114, 32], AV.s [120], AV.s [32, 32], AV.s [13], AV.s [49], AV.s [97, 35], AV.s [10, 10], AV.s [126]][r1 * 1]? = some (.s u) := by
        obtain rfl | rfl | rfl | rfl | rfl | rfl | rfl | rfl | rfl | rfl | rfl | rfl | rfl | rfl | rfl | rfl : r1 = 0 ∨ r1 = 1 ∨ r1 = 2 ∨ r1 = 3 ∨ r1 = 4 ∨ r1 = 5 ∨ r1 = 6 ∨ r1 = 7 ∨ r1 = 8 ∨ r1 = 9 ∨ r1 = 10 ∨ r1 = 11 ∨ r1 = 12 ∨ r1 = 13 ∨ r1 = 14 ∨ r1 = 15 := by omega
        all_goals exact ⟨_, by decide, rfl⟩
      rw [w_loop]
      unfold lp_entaillaw12_Tame_0
      simp (disch := first | omega | (simp only [List.length_cons, List.length_nil, true_and, and_true, nx_push, nx_put, nx_mark]; try omega)) only [go_sem, ↓reduceIte, Nat.reduceAdd, Nat.reduceMul, Nat.reduceSub, Int.reduceToNat, UInt8.reduceToNat, Nat.reduceLeDiff, Nat.reduceEqDiff, Nat.sub_zero, Int.add_zero, Int.zero_add, Nat.add_zero, Nat.zero_add, Nat.zero_mul, f0, f3, f4, hc, e1, ju]
      refine atW 25 rfl (ih (i + 1) _ _ (t ++ u) (by omega) (by omega) (hE.push _ hE.next) (by simp only [List.length_append]; omega) rfl rfl rfl k)
    · exact stop i f H t (by omega) hh hE ht f0 f3 f4 k
theorem Tame_run {s : List UInt8} (hs : s.length ≤ 1000000) (hw : Wf H) (h : ∀ H' t, Ext H.next H H' → t.length ≤ 600 → K (.s t) H') : @R S (.f n_entaillaw12_Tame) [.s s] H ⟨K⟩ := by
  refine run_fn2 rfl rfl ?_
  unfold bd_entaillaw12_Tame
  simp (disch := first | omega | (simp only [List.length_cons, List.length_nil, true_and, and_true, nx_push, nx_put, nx_mark]; try omega)) only [go_sem, ↓reduceIte, Nat.reduceAdd, Nat.reduceMul, Nat.reduceSub, Int.reduceToNat, UInt8.reduceToNat, Nat.reduceLeDiff, Nat.reduceEqDiff, Nat.sub_zero, Int.add_zero, Int.zero_add, Nat.add_zero, Nat.zero_add, Nat.zero_mul]
  refine atW 25 rfl (Tame_loop (H0 := H.mark []) hs 101 0 _ (H.mark []) [] rfl (by omega) (Ext.refl (H := H.mark []) hw) (by simp) rfl rfl rfl (fun f' H' t f3 lt hE => ?_))
  have hm : H'.marks = [] := hE.marks
  simp (disch := first | omega | (simp only [List.length_cons, List.length_nil, true_and, and_true, nx_push, nx_put, nx_mark]; try omega)) only [go_sem, ↓reduceIte, Nat.reduceAdd, Nat.reduceMul, Nat.reduceSub, Int.reduceToNat, UInt8.reduceToNat, Nat.reduceLeDiff, Nat.reduceEqDiff, Nat.sub_zero, Int.add_zero, Int.zero_add, Nat.add_zero, Nat.zero_add, Nat.zero_mul, f3, hm]
  exact h _ _ (Ext.mark hE) lt
end Go.Fw.Ro
end
section
/- RoleTells. -/
namespace Go.Fw.Ro
open Go Go.Fw Go.Fw.Sys
set_option maxRecDepth 100000
variable {H : Mem} {K : AV → Mem → Prop}
@[go_sem] theorem argsE6 {env : Tr} {a b c d e g : AV} : Sys.argsE 0 [a, b, c, d, e, g] env = (((((env.set .h a).set (.l .h) b).set (.r .h) c).set (.l (.l .h)) d).set (.r (.l .h)) e).set (.l (.r .h)) g := rfl
theorem fact_L (l : LineT) : (factF l).1.L.length ≤ l.2.length := by
  obtain ⟨a, ps⟩ := l
  by_cases h : (factF (a, ps)).2.2 = 0
  · have e := fact_tw (fact_ok h)
    have hl : (tw (f1 (a, ps))).length = ps.length := by rw [e.1]; simp
    show (f1 (a, ps)).L.length ≤ ps.length
    cases hf : formF (kwF (f1 (a, ps)).kind) with
    | some F =>
      have e2 : tw (f1 (a, ps)) = kwF (f1 (a, ps)).kind :: [(f1 (a, ps)).A, (f1 (a, ps)).B, (f1 (a, ps)).C].take F.names.toNat ++ (if F.number = true then [Lib.decDigits (f1 (a, ps)).N.toNat] else []) ++ (f1 (a, ps)).L := by unfold tw; rw [hf]
      rw [e2] at hl
      simp only [List.length_append] at hl
      omega
    | none =>
      have e2 : tw (f1 (a, ps)) = [] := by unfold tw; rw [hf]
      rw [e2] at hl
      have : ps = [] := List.eq_nil_of_length_eq_zero hl.symm
      subst this
      simp [factF] at h
  · cases ps with
    | nil => simp [factF, fact0]
    | cons w r =>
      simp only [factF] at h ⊢
      cases hf : formF w.1 with
      | none => simp [fact0]
      | some F =>
        rw [hf] at h
        simp only at h ⊢
        by_cases hc : (r.length : Int) < F.least ∨ F.most < (r.length : Int)
        · rw [if_pos hc]; simp [fact0]
        · rw [if_neg hc] at h ⊢
          cases hy : fillF F 0 r ⟨F.kind, [], [], [], 0, [], a⟩ with
          | error qe => simp [fact0]
          | ok y =>
            rw [hy] at h
            exact absurd rfl h
theorem T0_loop {rat : Int} {rv : AV} {ws : List (List UInt8 × Int)} {bx : Nat} {Q : Ex → Tr → Mem → Prop} (hw : Wf H) (hr : SlR 2 Rword H.get rv ws) (hbx : H.get bx = .mem [.i .i64 rat, rv] 0 ty_api_Line true 0) (hn : ws.length ≤ 1000000) : ∀ (r : List (List UInt8 × Int)) (i : Nat) (f : Nat → AV), ws.drop i = r → i + r.length = ws.length → f 11 = .p (some (bx, 0)) → f 13 = .i .i64 i →
    (∀ f' H', f' 12 = .b true → Ext H.next H H' → Q .rt (trO 144 f') H') → (∀ f', (∀ w ∈ r, w.1.length ≤ 100) → f' 0 = f 0 → f' 1 = f 1 → f' 2 = f 2 → f' 3 = f 3 → f' 4 = f 4 → f' 11 = f 11 → Q (.ex 0) (trO 144 f') H) → @W S false (.loop lp_entaillaw13_RoleTells_0) (trO 144 f) H ⟨Q⟩ := by
  intro r
  have l1 := hr.len
  have r1 := hr.one
  induction r with
  | nil =>
    intro i f h1 h3 f11 f13 kr k
    simp at h3
    rw [w_loop]
    unfold lp_entaillaw13_RoleTells_0
    simp (disch := first | omega | (simp only [List.length_cons, List.length_nil, true_and, and_true, nx_push, nx_put, nx_mark]; try omega)) only [go_sem, ↓reduceIte, Nat.reduceAdd, Nat.reduceMul, Nat.reduceSub, Int.reduceToNat, UInt8.reduceToNat, Nat.reduceLeDiff, Nat.reduceEqDiff, Nat.sub_zero, Int.add_zero, Int.zero_add, Nat.add_zero, Nat.zero_add, Nat.zero_mul, f11, f13, hbx, l1]
    exact atQ 144 rfl (k _ (by simp) rfl rfl rfl rfl rfl f11.symm)
  | cons w r ih =>
    intro i f h1 h3 f11 f13 kr k
    simp at h3
    have hx : ws[i]? = some w := by rw [← List.head?_drop, h1]; rfl
    have hr1 : ws.drop (i + 1) = r := by rw [← List.drop_drop, h1]; rfl
    obtain ⟨id, p, c, y1, y2, y3, y4, y5, y6⟩ := hr.at_ hx
    simp only [Rword] at y2
    subst y2
    have y7 : ldO (H.get id) false 1 p = some (.s w.1) := y3 0 (by omega)
    rw [w_loop]
    unfold lp_entaillaw13_RoleTells_0
    by_cases h100 : 100 < w.1.length
    · simp (disch := first | omega | (simp only [List.length_cons, List.length_nil, true_and, and_true, nx_push, nx_put, nx_mark]; try omega)) only [go_sem, ↓reduceIte, Nat.reduceAdd, Nat.reduceMul, Nat.reduceSub, Int.reduceToNat, UInt8.reduceToNat, Nat.reduceLeDiff, Nat.reduceEqDiff, Nat.sub_zero, Int.add_zero, Int.zero_add, Nat.add_zero, Nat.zero_add, Nat.zero_mul, f11, f13, hbx, l1, y1, y7]
      refine awake_run hw (fun H1 x1 => ?_)
      simp (disch := first | omega | (simp only [List.length_cons, List.length_nil, true_and, and_true, nx_push, nx_put, nx_mark]; try omega)) only [go_sem, ↓reduceIte, Nat.reduceAdd, Nat.reduceMul, Nat.reduceSub, Int.reduceToNat, UInt8.reduceToNat, Nat.reduceLeDiff, Nat.reduceEqDiff, Nat.sub_zero, Int.add_zero, Int.zero_add, Nat.add_zero, Nat.zero_add, Nat.zero_mul]
      exact atQ 144 rfl (kr _ H1 rfl x1)
    · simp (disch := first | omega | (simp only [List.length_cons, List.length_nil, true_and, and_true, nx_push, nx_put, nx_mark]; try omega)) only [go_sem, ↓reduceIte, Nat.reduceAdd, Nat.reduceMul, Nat.reduceSub, Int.reduceToNat, UInt8.reduceToNat, Nat.reduceLeDiff, Nat.reduceEqDiff, Nat.sub_zero, Int.add_zero, Int.zero_add, Nat.add_zero, Nat.zero_add, Nat.zero_mul, f11, f13, hbx, l1, y1, y7]
      refine atW 144 rfl (ih (i + 1) _ hr1 (by omega) rfl rfl kr (fun f' a b0 b1 b2 b3 b4 b11 => k f' (fun u hu => by
        rcases List.mem_cons.1 hu with rfl | hu
        · omega
        · exact a u hu) b0 b1 b2 b3 b4 (b11.trans f11.symm)))
theorem strA_u8 {H : Mem} {id t frz : Nat} {own : Bool} {zs : List Int} (h : H.get id = .mem (zs.map fun z => AV.i .u8 z) 1 t own frz) : strA H (.sl id 0 zs.length none) = some (.s (zs.map fun z => UInt8.ofNat z.toNat)) := by
  simp only [strA, h]
  rw [if_pos (by simp)]
  have : ((zs.map fun z => AV.i .u8 z).drop 0).take zs.length = zs.map fun z => AV.i .u8 z := by rw [List.drop_zero, List.take_of_length_le (by simp)]
  rw [this]
  have key : ∀ l : List Int, (l.map fun z => AV.i .u8 z).foldr (fun c r => match c, r with | .i .u8 n, some r => some (UInt8.ofNat n.toNat :: r) | _, _ => none) (some []) = some (l.map fun z => UInt8.ofNat z.toNat) := by
    intro l
    induction l with
    | nil => rfl
    | cons z l ih => simp only [List.map_cons, List.foldr_cons, ih]
  exact congrArg (Option.map AV.s) (key zs)
theorem rem_n (r : Nat) (m : Nat) (hm : 0 < m) (hr : r ≤ 1000000) : ∃ q : Nat, q < m ∧ binA .rem .int (.i .i64 (r : Int)) (.i .i64 (m : Int)) = some (.i .i64 (q : Int)) := by
  refine ⟨r % m, Nat.mod_lt _ hm, ?_⟩
  have h0 : ((m : Int) = 0) = False := by simp; omega
  have e2 : (r : Int).tmod (m : Int) = ((r % m : Nat) : Int) := rfl
  have hle : r % m ≤ r := Nat.mod_le _ _
  simp (disch := first | omega | (simp only [List.length_cons, List.length_nil, true_and, and_true, nx_push, nx_put, nx_mark]; try omega)) only [go_sem, ↓reduceIte, Nat.reduceAdd, Nat.reduceMul, Nat.reduceSub, Int.reduceToNat, UInt8.reduceToNat, Nat.reduceLeDiff, Nat.reduceEqDiff, Nat.sub_zero, Int.add_zero, Int.zero_add, Nat.add_zero, Nat.zero_add, Nat.zero_mul, h0, e2]
theorem T1_loop {v : AV} {xs : List Int} {wh : Bool} {at_ by_ : Int} {H0 : Mem} {Q : Ex → Tr → Mem → Prop} (w0 : Wf H0) (hv : SlR 1 Ri H0.get v xs) : ∀ (n i : Nat) (f : Nat → AV) (H : Mem) (s : List UInt8), i + n = 4 → Ext H0.next H0 H → s.length ≤ 1500 → f 0 = .s s → f 1 = v → f 2 = .b wh → f 3 = .i .i64 at_ → f 4 = .i .u8 by_ → f 20 = .i .i64 i →
    (∀ f' H', Ext H0.next H0 H' → Q (.ex 2) (trO 144 f') H') → @W S false (.loop lp_entaillaw13_RoleTells_1) (trO 144 f) H ⟨Q⟩ := by
  intro n
  induction n with
  | zero =>
    intro i f H s hi hE hs f0 f1 f2 f3 f4 f20 k
    have hi4 : (i : Int) = 4 := by omega
    rw [w_loop]
    unfold lp_entaillaw13_RoleTells_1
    simp (disch := first | omega | (simp only [List.length_cons, List.length_nil, true_and, and_true, nx_push, nx_put, nx_mark]; try omega)) only [go_sem, ↓reduceIte, Nat.reduceAdd, Nat.reduceMul, Nat.reduceSub, Int.reduceToNat, UInt8.reduceToNat, Nat.reduceLeDiff, Nat.reduceEqDiff, Nat.sub_zero, Int.add_zero, Int.zero_add, Nat.add_zero, Nat.zero_add, Nat.zero_mul, f0, f1, f2, f3, f4, f20, hi4]
    exact atQ 144 rfl (k _ H hE)
  | succ n ih =>
    intro i f H s hi hE hs f0 f1 f2 f3 f4 f20 k
    have n0 := hE.next
    rw [w_loop]
    unfold lp_entaillaw13_RoleTells_1
    simp (disch := first | omega | (simp only [List.length_cons, List.length_nil, true_and, and_true, nx_push, nx_put, nx_mark]; try omega)) only [go_sem, ↓reduceIte, Nat.reduceAdd, Nat.reduceMul, Nat.reduceSub, Int.reduceToNat, UInt8.reduceToNat, Nat.reduceLeDiff, Nat.reduceEqDiff, Nat.sub_zero, Int.add_zero, Int.zero_add, Nat.add_zero, Nat.zero_add, Nat.zero_mul, f0, f1, f2, f3, f4, f20]
    refine Parse_run (by omega) hE.wf (fun u H1 x1 hu => ?_)
    have u1 := hu.one
    have hE1 := hE.trans x1 n0
    have n1 := x1.next
    simp (disch := first | omega | (simp only [List.length_cons, List.length_nil, true_and, and_true, nx_push, nx_put, nx_mark]; try omega)) only [go_sem, ↓reduceIte, Nat.reduceAdd, Nat.reduceMul, Nat.reduceSub, Int.reduceToNat, UInt8.reduceToNat, Nat.reduceLeDiff, Nat.reduceEqDiff, Nat.sub_zero, Int.add_zero, Int.zero_add, Nat.add_zero, Nat.zero_add, Nat.zero_mul, u1]
    refine RParse_run (by omega) x1.wf (fun u2 H2 x2 hu2 => ?_)
    have u21 := hu2.one
    have hE2 := hE1.trans x2 (by omega)
    have n2 := x2.next
    have pk := parse_ok s
    simp (disch := first | omega | (simp only [List.length_cons, List.length_nil, true_and, and_true, nx_push, nx_put, nx_mark]; try omega)) only [go_sem, ↓reduceIte, Nat.reduceAdd, Nat.reduceMul, Nat.reduceSub, Int.reduceToNat, UInt8.reduceToNat, Nat.reduceLeDiff, Nat.reduceEqDiff, Nat.sub_zero, Int.add_zero, Int.zero_add, Nat.add_zero, Nat.zero_add, Nat.zero_mul, u21, u1]
    refine SameAt_run ((hu.mono Rfact_mono sn_le).mono Rfact_mono (le_up x2 x1.wf (Nat.le_refl _))) (hu2.mono Rfact_mono sn_le) x2.wf pk.2 pk.1 (fun H3 x3 => ?_)
    have hE3 := hE2.trans x3 (by omega)
    have n3 := x3.next
    simp (disch := first | omega | (simp only [List.length_cons, List.length_nil, true_and, and_true, nx_push, nx_put, nx_mark]; try omega)) only [go_sem, ↓reduceIte, Nat.reduceAdd, Nat.reduceMul, Nat.reduceSub, Int.reduceToNat, UInt8.reduceToNat, Nat.reduceLeDiff, Nat.reduceEqDiff, Nat.sub_zero, Int.add_zero, Int.zero_add, Nat.add_zero, Nat.zero_add, Nat.zero_mul]
    obtain rfl | rfl | rfl | rfl : i = 0 ∨ i = 1 ∨ i = 2 ∨ i = 3 := by omega
    · simp (disch := first | omega | (simp only [List.length_cons, List.length_nil, true_and, and_true, nx_push, nx_put, nx_mark]; try omega)) only [go_sem, ↓reduceIte, Nat.reduceAdd, Nat.reduceMul, Nat.reduceSub, Int.reduceToNat, UInt8.reduceToNat, Nat.reduceLeDiff, Nat.reduceEqDiff, Nat.sub_zero, Int.add_zero, Int.zero_add, Nat.add_zero, Nat.zero_add, Nat.zero_mul]
      refine Tame_run (by omega) x3.wf (fun H4 t x4 lt => ?_)
      simp (disch := first | omega | (simp only [List.length_cons, List.length_nil, true_and, and_true, nx_push, nx_put, nx_mark]; try omega)) only [go_sem, ↓reduceIte, Nat.reduceAdd, Nat.reduceMul, Nat.reduceSub, Int.reduceToNat, UInt8.reduceToNat, Nat.reduceLeDiff, Nat.reduceEqDiff, Nat.sub_zero, Int.add_zero, Int.zero_add, Nat.add_zero, Nat.zero_add, Nat.zero_mul]
      refine atW 144 rfl (ih 1 _ H4 t (by omega) (hE3.trans x4 (by omega)) (by omega) rfl rfl rfl rfl rfl rfl k)
    · simp (disch := first | omega | (simp only [List.length_cons, List.length_nil, true_and, and_true, nx_push, nx_put, nx_mark]; try omega)) only [go_sem, ↓reduceIte, Nat.reduceAdd, Nat.reduceMul, Nat.reduceSub, Int.reduceToNat, UInt8.reduceToNat, Nat.reduceLeDiff, Nat.reduceEqDiff, Nat.sub_zero, Int.add_zero, Int.zero_add, Nat.add_zero, Nat.zero_add, Nat.zero_mul]
      refine File_run x3.wf (hv.mono Ri_mono (le_up hE3 w0 (Nat.le_refl _))) (fun H4 t x4 lt => ?_)
      simp (disch := first | omega | (simp only [List.length_cons, List.length_nil, true_and, and_true, nx_push, nx_put, nx_mark]; try omega)) only [go_sem, ↓reduceIte, Nat.reduceAdd, Nat.reduceMul, Nat.reduceSub, Int.reduceToNat, UInt8.reduceToNat, Nat.reduceLeDiff, Nat.reduceEqDiff, Nat.sub_zero, Int.add_zero, Int.zero_add, Nat.add_zero, Nat.zero_add, Nat.zero_mul]
      refine atW 144 rfl (ih 2 _ H4 t (by omega) (hE3.trans x4 (by omega)) (by omega) rfl rfl rfl rfl rfl rfl k)
    · simp (disch := first | omega | (simp only [List.length_cons, List.length_nil, true_and, and_true, nx_push, nx_put, nx_mark]; try omega)) only [go_sem, ↓reduceIte, Nat.reduceAdd, Nat.reduceMul, Nat.reduceSub, Int.reduceToNat, UInt8.reduceToNat, Nat.reduceLeDiff, Nat.reduceEqDiff, Nat.sub_zero, Int.add_zero, Int.zero_add, Nat.add_zero, Nat.zero_add, Nat.zero_mul]
      by_cases h0 : s.length = 0
      · have et := strA_u8 (H := H3.push (.mem (s.map fun c => AV.i .u8 c.toNat) 1 ty_uint8 true 0)) (id := H3.next) (zs := s.map fun c => (c.toNat : Int)) (t := ty_uint8) (own := true) (frz := 0) (by rw [Mem.get_push, if_pos rfl, List.map_map]; rfl)
        simp only [List.length_map] at et
        simp (disch := first | omega | (simp only [List.length_cons, List.length_nil, true_and, and_true, nx_push, nx_put, nx_mark]; try omega)) only [go_sem, ↓reduceIte, Nat.reduceAdd, Nat.reduceMul, Nat.reduceSub, Int.reduceToNat, UInt8.reduceToNat, Nat.reduceLeDiff, Nat.reduceEqDiff, Nat.sub_zero, Int.add_zero, Int.zero_add, Nat.add_zero, Nat.zero_add, Nat.zero_mul, et]
        refine atW 144 rfl (ih 3 _ _ _ (by omega) (hE3.push _ (by omega)) (by simp; omega) rfl rfl rfl rfl rfl rfl k)
      · obtain ⟨r1, hr1, e1⟩ := and_3 at_ 65535 65535 rfl (by omega)
        obtain ⟨q, hq, m1⟩ := rem_n r1 s.length (by omega) (by omega)
        obtain ⟨b, hb⟩ : ∃ b : UInt8, s[q]? = some b := ⟨s[q], List.getElem?_eq_getElem hq⟩
        have hb2 : (s.map fun c => AV.i .u8 c.toNat)[q * 1]? = some (.i .u8 b.toNat) := by rw [Nat.mul_one, List.getElem?_map, hb]; rfl
        have et : ∀ z : Int, strA ((H3.push (AO.mem (List.map (fun c => AV.i IntKind.u8 (c.toNat : Int)) s) 1 ty_uint8 true 0)).put H3.next (AO.mem (List.take (q * 1) (List.map (fun c => AV.i IntKind.u8 (c.toNat : Int)) s) ++ AV.i IntKind.u8 z :: List.drop (q * 1 + 1) (List.map (fun c => AV.i IntKind.u8 (c.toNat : Int)) s)) 1 ty_uint8 true 0)) (.sl H3.next 0 s.length none) = some (.s ((List.take q (s.map fun c => (c.toNat : Int)) ++ z :: List.drop (q + 1) (s.map fun c => (c.toNat : Int))).map fun z => UInt8.ofNat z.toNat)) := fun z => by
          have := strA_u8 (H := (H3.push (AO.mem (List.map (fun c => AV.i IntKind.u8 (c.toNat : Int)) s) 1 ty_uint8 true 0)).put H3.next (AO.mem (List.take (q * 1) (List.map (fun c => AV.i IntKind.u8 (c.toNat : Int)) s) ++ AV.i IntKind.u8 z :: List.drop (q * 1 + 1) (List.map (fun c => AV.i IntKind.u8 (c.toNat : Int)) s)) 1 ty_uint8 true 0)) (id := H3.next) (zs := List.take q (s.map fun c => (c.toNat : Int)) ++ z :: List.drop (q + 1) (s.map fun c => (c.toNat : Int))) (t := ty_uint8) (own := true) (frz := 0) (by rw [Mem.get_put, if_pos rfl]; simp [List.map_take, List.map_drop, List.map_map, Function.comp_def])
          rw [show (List.take q (s.map fun c => (c.toNat : Int)) ++ z :: List.drop (q + 1) (s.map fun c => (c.toNat : Int))).length = s.length by simp; omega] at this
          exact this
        simp (disch := first | omega | (simp only [List.length_cons, List.length_nil, true_and, and_true, nx_push, nx_put, nx_mark]; try omega)) only [go_sem, ↓reduceIte, Nat.reduceAdd, Nat.reduceMul, Nat.reduceSub, Int.reduceToNat, UInt8.reduceToNat, Nat.reduceLeDiff, Nat.reduceEqDiff, Nat.sub_zero, Int.add_zero, Int.zero_add, Nat.add_zero, Nat.zero_add, Nat.zero_mul, e1, m1, hb2, List.length_map, et]
        refine atW 144 rfl (ih 3 _ _ _ (by omega) ((hE3.push _ (by omega)).put (by omega) (by simp only [nx_push]; omega) _) (by simp; omega) rfl rfl rfl rfl rfl rfl k)
    · simp (disch := first | omega | (simp only [List.length_cons, List.length_nil, true_and, and_true, nx_push, nx_put, nx_mark]; try omega)) only [go_sem, ↓reduceIte, Nat.reduceAdd, Nat.reduceMul, Nat.reduceSub, Int.reduceToNat, UInt8.reduceToNat, Nat.reduceLeDiff, Nat.reduceEqDiff, Nat.sub_zero, Int.add_zero, Int.zero_add, Nat.add_zero, Nat.zero_add, Nat.zero_mul]
      refine atW 144 rfl (ih 4 _ H3 s (by omega) hE3 hs rfl rfl rfl rfl rfl rfl k)
theorem oneR {G : Gt} {id t : Nat} {x : FactT} {u : AV} {cap : Option Nat} (hget : G id = .mem (factC x u) 7 t true 0) (hc : ∀ c, cap = some c → 1 ≤ c) (hu : SlR 1 Rs G u x.L) : SlR 7 Rfact G (.sl id 0 1 cap) [x] :=
  .inr ⟨id, 0, cap, _, t, true, 0, rfl, hget, hc, ⟨by simp [factC], fun j y hy => by
    cases j with
    | zero => simp at hy; subst hy; exact ⟨u, by simp [factC], hu⟩
    | succ j => simp at hy⟩⟩
theorem Tells_run {s : List UInt8} {v rv : AV} {xs : List Int} {ws : List (List UInt8 × Int)} {wh : Bool} {at_ by_ rat : Int} (hw : Wf H) (hv : SlR 1 Ri H.get v xs) (hr : SlR 2 Rword H.get rv ws) (h : ∀ H', K (.b true) H') :
    @R S (.f n_entaillaw13_RoleTells) [.s s, v, .b wh, .i .i64 at_, .i .u8 by_, .agg [.i .i64 rat, rv]] H ⟨K⟩ := by
  refine run_fn2 rfl rfl ?_
  unfold bd_entaillaw13_RoleTells
  have v1 := hv.one
  have r1 := hr.one
  have rl := hr.len
  have aw : ∀ (H' : Mem), Ext H.next (H.mark []) H' → True := fun _ _ => trivial
  by_cases h1 : 1000 < s.length
  · simp (disch := first | omega | (simp only [List.length_cons, List.length_nil, true_and, and_true, nx_push, nx_put, nx_mark]; try omega)) only [go_sem, ↓reduceIte, Nat.reduceAdd, Nat.reduceMul, Nat.reduceSub, Int.reduceToNat, UInt8.reduceToNat, Nat.reduceLeDiff, Nat.reduceEqDiff, Nat.sub_zero, Int.add_zero, Int.zero_add, Nat.add_zero, Nat.zero_add, Nat.zero_mul, v1, r1, rl]
    refine awake_run ((hw.mark []).push _) (fun H1 x1 => ?_)
    have hm : H1.marks = [] := x1.marks
    simp (disch := first | omega | (simp only [List.length_cons, List.length_nil, true_and, and_true, nx_push, nx_put, nx_mark]; try omega)) only [go_sem, ↓reduceIte, Nat.reduceAdd, Nat.reduceMul, Nat.reduceSub, Int.reduceToNat, UInt8.reduceToNat, Nat.reduceLeDiff, Nat.reduceEqDiff, Nat.sub_zero, Int.add_zero, Int.zero_add, Nat.add_zero, Nat.zero_add, Nat.zero_mul, hm]
    exact h _
  · by_cases h2 : 20 < ws.length
    · simp (disch := first | omega | (simp only [List.length_cons, List.length_nil, true_and, and_true, nx_push, nx_put, nx_mark]; try omega)) only [go_sem, ↓reduceIte, Nat.reduceAdd, Nat.reduceMul, Nat.reduceSub, Int.reduceToNat, UInt8.reduceToNat, Nat.reduceLeDiff, Nat.reduceEqDiff, Nat.sub_zero, Int.add_zero, Int.zero_add, Nat.add_zero, Nat.zero_add, Nat.zero_mul, v1, r1, rl]
      refine awake_run ((hw.mark []).push _) (fun H1 x1 => ?_)
      have hm : H1.marks = [] := x1.marks
      simp (disch := first | omega | (simp only [List.length_cons, List.length_nil, true_and, and_true, nx_push, nx_put, nx_mark]; try omega)) only [go_sem, ↓reduceIte, Nat.reduceAdd, Nat.reduceMul, Nat.reduceSub, Int.reduceToNat, UInt8.reduceToNat, Nat.reduceLeDiff, Nat.reduceEqDiff, Nat.sub_zero, Int.add_zero, Int.zero_add, Nat.add_zero, Nat.zero_add, Nat.zero_mul, hm]
      exact h _
    · simp (disch := first | omega | (simp only [List.length_cons, List.length_nil, true_and, and_true, nx_push, nx_put, nx_mark]; try omega)) only [go_sem, ↓reduceIte, Nat.reduceAdd, Nat.reduceMul, Nat.reduceSub, Int.reduceToNat, UInt8.reduceToNat, Nat.reduceLeDiff, Nat.reduceEqDiff, Nat.sub_zero, Int.add_zero, Int.zero_add, Nat.add_zero, Nat.zero_add, Nat.zero_mul, v1, r1, rl]
      generalize hB : ((H.mark []).push (AO.mem [AV.i IntKind.i64 rat, rv] 0 ty_api_Line true 0)) = HB
      have xB : Ext H.next (H.mark []) HB := by rw [← hB]; exact (Ext.refl (H := H.mark []) hw).push _ (Nat.le_refl _)
      have nB : HB.next = H.next + 1 := by rw [← hB]; rfl
      have gB : HB.get H.next = .mem [.i .i64 rat, rv] 0 ty_api_Line true 0 := by rw [← hB]; simp (disch := first | omega | (simp only [List.length_cons, List.length_nil, true_and, and_true, nx_push, nx_put, nx_mark]; try omega)) only [go_sem, ↓reduceIte, Nat.reduceAdd, Nat.reduceMul, Nat.reduceSub, Int.reduceToNat, UInt8.reduceToNat, Nat.reduceLeDiff, Nat.reduceEqDiff, Nat.sub_zero, Int.add_zero, Int.zero_add, Nat.add_zero, Nat.zero_add, Nat.zero_mul]
      clear hB
      have hrB := hr.mono Rword_mono (le_up (H := H.mark []) xB hw (Nat.le_refl _))
      refine atW 144 rfl (T0_loop xB.wf hrB gB (by omega) ws 0 _ rfl (by omega) rfl rfl (fun f' H1 b c => ?_) (fun f' hlen b0 b1 b2 b3 b4 b11 => ?_))
      · have hm : H1.marks = [] := (xB.trans c (by omega)).marks
        simp (disch := first | omega | (simp only [List.length_cons, List.length_nil, true_and, and_true, nx_push, nx_put, nx_mark]; try omega)) only [go_sem, ↓reduceIte, Nat.reduceAdd, Nat.reduceMul, Nat.reduceSub, Int.reduceToNat, UInt8.reduceToNat, Nat.reduceLeDiff, Nat.reduceEqDiff, Nat.sub_zero, Int.add_zero, Int.zero_add, Nat.add_zero, Nat.zero_add, Nat.zero_mul, b, hm]
        exact h _
      · have b0 : f' 0 = .s s := b0
        have b1 : f' 1 = v := b1
        have b2 : f' 2 = .b wh := b2
        have b3 : f' 3 = .i .i64 at_ := b3
        have b4 : f' 4 = .i .u8 by_ := b4
        have b11 : f' 11 = .p (some (H.next, 0)) := b11
        have hlw : ∀ w ∈ ws, w.1.length ≤ 1000000 := fun w hx => by have := hlen w hx; omega
        simp (disch := first | omega | (simp only [List.length_cons, List.length_nil, true_and, and_true, nx_push, nx_put, nx_mark]; try omega)) only [go_sem, ↓reduceIte, Nat.reduceAdd, Nat.reduceMul, Nat.reduceSub, Int.reduceToNat, UInt8.reduceToNat, Nat.reduceLeDiff, Nat.reduceEqDiff, Nat.sub_zero, Int.add_zero, Int.zero_add, Nat.add_zero, Nat.zero_add, Nat.zero_mul, b0, b1, b2, b3, b4, b11, gB]
        refine Fact_run (at_ := rat) hrB xB.wf (by omega) hlw (fun c1 H1 x1 hc1 => ?_)
        have hX1 := xB.trans x1 (by omega)
        have n1 := x1.next
        obtain ⟨g1, rfl, gr1⟩ := hc1
        have g1o := gr1.one
        have gB1 := x1.of gB (by omega)
        simp only [factC]
        simp (disch := first | omega | (simp only [List.length_cons, List.length_nil, true_and, and_true, nx_push, nx_put, nx_mark]; try omega)) only [go_sem, ↓reduceIte, Nat.reduceAdd, Nat.reduceMul, Nat.reduceSub, Int.reduceToNat, UInt8.reduceToNat, Nat.reduceLeDiff, Nat.reduceEqDiff, Nat.sub_zero, Int.add_zero, Int.zero_add, Nat.add_zero, Nat.zero_add, Nat.zero_mul, b11, g1o, gB1]
        obtain ⟨F, hF⟩ : ∃ F, F = (factF (rat, ws)).1 := ⟨_, rfl⟩
        rw [← hF] at gr1 ⊢
        generalize hM : ((H1.push (AO.mem [AV.i IntKind.i64 0, AV.s [], AV.s [], AV.s [], AV.i IntKind.i64 0, AV.nsl, AV.i IntKind.i64 0] 0 ty_api_Fact true 0)).put H1.next (AO.mem [AV.i IntKind.i64 F.kind, AV.s F.A, AV.s F.B, AV.s F.C, AV.i IntKind.i64 F.N, g1, AV.i IntKind.i64 F.at_] 0 ty_api_Fact true 0)) = H2
        have x2 : Ext H1.next H1 H2 := by rw [← hM]; exact ((Ext.refl x1.wf).push _ (Nat.le_refl _)).put (Nat.le_refl _) (by simp) _
        have hn2 : H2.next = H1.next + 1 := by rw [← hM]; rfl
        have m2 : H2.get H1.next = .mem (factC F g1) 0 ty_api_Fact true 0 := by rw [← hM]; simp (disch := first | omega | (simp only [List.length_cons, List.length_nil, true_and, and_true, nx_push, nx_put, nx_mark]; try omega)) only [go_sem, ↓reduceIte, Nat.reduceAdd, Nat.reduceMul, Nat.reduceSub, Int.reduceToNat, UInt8.reduceToNat, Nat.reduceLeDiff, Nat.reduceEqDiff, Nat.sub_zero, Int.add_zero, Int.zero_add, Nat.add_zero, Nat.zero_add, Nat.zero_mul, factC]
        clear hM
        have hX2 := hX1.trans x2 (by omega)
        have gB2 := x2.of gB1 (by omega)
        have hr2 := hr.mono Rword_mono (le_up (H := H.mark []) hX2 hw (Nat.le_refl _))
        refine RFact_run (at_ := rat) hr2 x2.wf (by omega) hlw (fun c2 H3 x3 hc2 => ?_)
        have hX3 := hX2.trans x3 (by omega)
        have n3 := x3.next
        obtain ⟨g2, rfl, gr2⟩ := hc2
        have g2o := gr2.one
        have m3 := x3.of m2 (by omega)
        rw [← hF] at gr2 ⊢
        simp only [factC] at m3 ⊢
        simp (disch := first | omega | (simp only [List.length_cons, List.length_nil, true_and, and_true, nx_push, nx_put, nx_mark]; try omega)) only [go_sem, ↓reduceIte, Nat.reduceAdd, Nat.reduceMul, Nat.reduceSub, Int.reduceToNat, UInt8.reduceToNat, Nat.reduceLeDiff, Nat.reduceEqDiff, Nat.sub_zero, Int.add_zero, Int.zero_add, Nat.add_zero, Nat.zero_add, Nat.zero_mul, b11, g2o, m3, g1o]
        generalize hM : ((((H3.push (AO.mem [AV.i IntKind.i64 0, AV.s [], AV.s [], AV.s [], AV.i IntKind.i64 0, AV.nsl, AV.i IntKind.i64 0] 0 ty_api_Fact true 0)).put H3.next (AO.mem [AV.i IntKind.i64 F.kind, AV.s F.A, AV.s F.B, AV.s F.C, AV.i IntKind.i64 F.N, g2, AV.i IntKind.i64 F.at_] 0 ty_api_Fact true 0)).push (AO.mem [AV.i IntKind.i64 F.kind, AV.s F.A, AV.s F.B, AV.s F.C, AV.i IntKind.i64 F.N, g1, AV.i IntKind.i64 F.at_] 7 ty_api_Fact true 0)).push (AO.mem [AV.i IntKind.i64 F.kind, AV.s F.A, AV.s F.B, AV.s F.C, AV.i IntKind.i64 F.N, g2, AV.i IntKind.i64 F.at_] 7 ty_api_Fact true 0)) = H4
        have x4 : Ext H3.next H3 H4 := by rw [← hM]; exact ((((Ext.refl x3.wf).push _ (Nat.le_refl _)).put (Nat.le_refl _) (by simp) _).push _ (by simp)).push _ (by simp; omega)
        have hn4 : H4.next = H3.next + 3 := by rw [← hM]; rfl
        have m4 : H4.get (H3.next + 1) = .mem (factC F g1) 7 ty_api_Fact true 0 := by rw [← hM]; simp (disch := first | omega | (simp only [List.length_cons, List.length_nil, true_and, and_true, nx_push, nx_put, nx_mark]; try omega)) only [go_sem, ↓reduceIte, Nat.reduceAdd, Nat.reduceMul, Nat.reduceSub, Int.reduceToNat, UInt8.reduceToNat, Nat.reduceLeDiff, Nat.reduceEqDiff, Nat.sub_zero, Int.add_zero, Int.zero_add, Nat.add_zero, Nat.zero_add, Nat.zero_mul, factC]
        have m5 : H4.get (H3.next + 1 + 1) = .mem (factC F g2) 7 ty_api_Fact true 0 := by rw [← hM]; simp (disch := first | omega | (simp only [List.length_cons, List.length_nil, true_and, and_true, nx_push, nx_put, nx_mark]; try omega)) only [go_sem, ↓reduceIte, Nat.reduceAdd, Nat.reduceMul, Nat.reduceSub, Int.reduceToNat, UInt8.reduceToNat, Nat.reduceLeDiff, Nat.reduceEqDiff, Nat.sub_zero, Int.add_zero, Int.zero_add, Nat.add_zero, Nat.zero_add, Nat.zero_mul, factC]
        clear hM
        have hX4 := hX3.trans x4 (by omega)
        have gr1' : SlR 1 Rs H4.get g1 F.L := (((gr1.mono Rs_mono sn_le).mono Rs_mono (le_up x2 x1.wf (Nat.le_refl _))).mono Rs_mono (le_up x3 x2.wf (Nat.le_refl _))).mono Rs_mono (le_up x4 x3.wf (Nat.le_refl _))
        have gr2' : SlR 1 Rs H4.get g2 F.L := (gr2.mono Rs_mono sn_le).mono Rs_mono (le_up x4 x3.wf (Nat.le_refl _))
        refine SameAt_run (xs := [F]) (oneR m4 (fun c e => by cases e; exact Nat.le_refl _) gr1') (oneR m5 (fun c e => by cases e; exact Nat.le_refl _) gr2') x4.wf (by simp) (fun x hx => ?_) (fun H5 x5 => ?_)
        · simp only [List.mem_singleton] at hx
          subst hx
          rw [hF]
          have := fact_L (rat, ws)
          simp only at this
          omega
        have hX5 := hX4.trans x5 (by omega)
        have n5 := x5.next
        simp (disch := first | omega | (simp only [List.length_cons, List.length_nil, true_and, and_true, nx_push, nx_put, nx_mark]; try omega)) only [go_sem, ↓reduceIte, Nat.reduceAdd, Nat.reduceMul, Nat.reduceSub, Int.reduceToNat, UInt8.reduceToNat, Nat.reduceLeDiff, Nat.reduceEqDiff, Nat.sub_zero, Int.add_zero, Int.zero_add, Nat.add_zero, Nat.zero_add, Nat.zero_mul]
        refine atW 144 rfl (T1_loop (v := v) (xs := xs) (wh := wh) (at_ := at_) (by_ := by_) (H0 := H.mark []) hw hv 4 0 _ H5 s rfl hX5 (by omega) (by first | rfl | exact b0) (by first | rfl | exact b1) (by first | rfl | exact b2) (by first | rfl | exact b3) (by first | rfl | exact b4) rfl (fun f6 H6 hX6 => ?_))
        simp (disch := first | omega | (simp only [List.length_cons, List.length_nil, true_and, and_true, nx_push, nx_put, nx_mark]; try omega)) only [go_sem, ↓reduceIte, Nat.reduceAdd, Nat.reduceMul, Nat.reduceSub, Int.reduceToNat, UInt8.reduceToNat, Nat.reduceLeDiff, Nat.reduceEqDiff, Nat.sub_zero, Int.add_zero, Int.zero_add, Nat.add_zero, Nat.zero_add, Nat.zero_mul]
        refine awake_run hX6.wf (fun H7 x7 => ?_)
        have hm7 : H7.marks = [] := (hX6.trans x7 hX6.next).marks
        simp (disch := first | omega | (simp only [List.length_cons, List.length_nil, true_and, and_true, nx_push, nx_put, nx_mark]; try omega)) only [go_sem, ↓reduceIte, Nat.reduceAdd, Nat.reduceMul, Nat.reduceSub, Int.reduceToNat, UInt8.reduceToNat, Nat.reduceLeDiff, Nat.reduceEqDiff, Nat.sub_zero, Int.add_zero, Int.zero_add, Nat.add_zero, Nat.zero_add, Nat.zero_mul, hm7]
        exact h _
end Go.Fw.Ro
end
section
/- The told calls do as they are told. -/
namespace Go.Fw.Ro
open Go Go.Fw Go.Fw.Sys Go.RowKit
variable {P : Program} {μ : Mp} {B : Bd} {w0 w : World} {H : Mem}
structure ToldR (P : Program) (it cc st tB tU : Nat) : Prop where
  eit : ∃ fn, P.funcs[it]? = some fn ∧ (fn.name == "runtime.NumGoroutine") = false ∧ fn.body.isSome = true
  ecc : ∃ fn, P.funcs[cc]? = some fn ∧ (fn.name == "runtime.NumGoroutine") = false ∧ fn.body.isSome = true
  est : ∃ fn, P.funcs[st]? = some fn ∧ (fn.name == "runtime.NumGoroutine") = false ∧ fn.body.isSome = true
  itoa : ∀ (i : Nat), i < 100 → ∀ w : World, Calls P it #[.int .i64 i] w fun e w' => e = .returned (.string ⟨(Lib.decDigits i).toArray⟩) ∧ w' = w
  glt : gPow < P.globals.size
  itoaT : ∀ (i : Nat), i ≤ 1000 → ∀ (w : World) (cs : Array Value) (t : TypeId) (fr : Nat × Nat), w.heap[gPow]? = some (.cells cs t fr) → cs.toList = Lib.pow10Tab.map (fun z => Value.int .u64 z) → Calls P it #[.int .i64 i] w fun e w' => e = .returned (.string ⟨(Lib.decDigits i).toArray⟩) ∧ Below w.heap.size w w'
  copy : ∀ (b : Nat) (w : World), w.cell? ⟨b, 0, none⟩ = some (.pointer none) → w.shape? b = some (tB, 2) → w.frozen? ⟨b, 0, none⟩ = false → Calls P cc #[.pointer (some ⟨b, 0, none⟩)] w fun e w' => e = .returned (.tuple #[]) ∧ w' = w.setCell ⟨b, 0, none⟩ (.pointer (some ⟨b, 0, none⟩))
  str0 : ∀ (b : Nat) (w : World), w.cell? ⟨b, 1, none⟩ = some (.slice none 0 0) → Calls P st #[.pointer (some ⟨b, 0, none⟩)] w fun e w' => e = .returned (.string ⟨#[]⟩) ∧ Below w.heap.size w w'
  str : ∀ (b g cap n : Nat) (l : List UInt8) (w : World), l ≠ [] → l.length ≤ cap → cap ≤ n → l.length ≤ 9223372036854775807 → w.cell? ⟨b, 1, none⟩ = some (.slice (some ⟨g, 0, none⟩) l.length cap) → w.shape? g = some (tU, n) → (∀ (j : Nat) (x : UInt8), l[j]? = some x → w.cell? ⟨g, j, none⟩ = some (.int .u8 x.toNat)) →
    Calls P st #[.pointer (some ⟨b, 0, none⟩)] w fun e w' => e = .returned (.string ⟨l.toArray⟩) ∧ ∃ w1 : World, w1.heap = w.heap ∧ Below w.heap.size w w1 ∧ w' = w1.freeze ⟨g, 0, none⟩ l.length
theorem bleN2 (a b : Nat) : Nat.ble a b = decide (a ≤ b) := by
  cases h : Nat.ble a b with
  | true => rw [Nat.ble_eq] at h; simp [h]
  | false =>
    have : ¬ a ≤ b := fun e => by rw [← Nat.ble_eq] at e; rw [h] at e; cases e
    simp [this]
theorem one_arg {x : AV} {us : Array Value} (h : VRs μ [x] us.toList) : ∃ u, us = #[u] ∧ VR μ x u := by
  simp only [VRs] at h
  obtain ⟨u, r, e1, hu, e3⟩ := h
  subst e3
  exact ⟨u, Array.toList_inj.1 e1, hu⟩
theorem freeze_at {g n t : Nat} {cs : Array Value} {fr : Nat × Nat} (h : w.heap[g]? = some (.cells cs t fr)) (hn : n ≠ 0) : (∃ fr', (w.freeze ⟨g, 0, none⟩ n).heap[g]? = some (.cells cs t fr')) ∧ ∀ k, k ≠ g → (w.freeze ⟨g, 0, none⟩ n).heap[k]? = w.heap[k]? := by
  obtain ⟨lo, hi⟩ := fr
  unfold World.freeze
  simp only [if_neg hn]
  refine ⟨⟨_, by simp [Array.getElem?_modify, h]; rfl⟩, fun k hk => ?_⟩
  simp only [Array.getElem?_modify]
  rw [if_neg (fun e => hk e.symm)]
theorem strL_some : ∀ (l : List AV) (x : List UInt8), strL l = some x → l = x.map fun c => (AV.i .u8 (c.toNat : Int))
  | [], x, h => by simp [strL] at h; subst h; rfl
  | a :: r, x, h => by
    unfold strL at h
    split at h <;> try (simp at h; done)
    · rename_i e; cases e
    · rename_i n r' e
      injection e with e1 e2
      subst e1; subst e2
      split at h <;> try (simp at h; done)
      rename_i hn
      split at h <;> try (simp at h; done)
      rename_i y hy
      simp at h; subst h
      have := strL_some _ _ hy
      rw [List.map_cons, ← this]
      congr 2
      simp; omega
theorem tab_vals {vs : List Value} (h : VRs μ powL vs) : vs = Lib.pow10Tab.map (fun z => Value.int .u64 z) := by
  unfold powL at h
  generalize Lib.pow10Tab = l at h
  induction l generalizing vs with
  | nil => simpa [VRs] using h
  | cons z l ih =>
    simp only [List.map_cons, VRs] at h
    obtain ⟨y, ys, rfl, h1, h2⟩ := h
    simp only [VR] at h1
    rw [h1, ih h2]; rfl
theorem extR_ok {it cc st tB tU : Nat} (T : ToldR P it cc st tB tU) : CallOK P B w0 (extR it cc st tB tU) := by
  intro c args H v H' μ w us hv hr hg ha
  cases c with
  | f f =>
    have wide : ∀ {n : Nat} {R : Ending → World → Prop} {us : Array Value}, Calls P f us w R → CallsIn (Fr none) n P f us w R := fun h => callsIn_wide.2 h
    simp only [extR] at hv
    rw [beqN] at hv
    by_cases h1 : f = it
    · subst h1
      simp only [decide_true, cond_true] at hv
      split at hv <;> try (simp at hv; done)
      rename_i n
      rw [bltN] at hv
      by_cases hn : n < 100
      · simp only [hn, decide_true, cond_true, Option.some.injEq, Prod.mk.injEq] at hv
        obtain ⟨rfl, rfl⟩ := hv
        obtain ⟨u, rfl, hu⟩ := one_arg ha
        simp only [VR] at hu; subst hu
        obtain ⟨fn, e1, e2, e3⟩ := T.eit
        refine ⟨rfl, UponR.of_calls (body_enter e1 e2 e3 _ w) fun n' => wide ((T.itoa n hn w).mono fun e w' ⟨h1, h2⟩ => ⟨_, μ, h1, Mp.le_refl _, by rw [h2]; exact hr, rfl⟩)⟩
      · simp only [hn, decide_false, cond_false] at hv
        split at hv <;> try (simp at hv; done)
        rename_i l el
        unfold tabI at hv
        split at hv <;> try (simp at hv; done)
        rename_i hl
        obtain ⟨rfl, hn2⟩ := hl
        simp only [Option.some.injEq, Prod.mk.injEq] at hv
        obtain ⟨rfl, rfl⟩ := hv
        obtain ⟨u, rfl, hu⟩ := one_arg ha
        simp only [VR] at hu; subst hu
        obtain ⟨fn, e1, e2, e3⟩ := T.eit
        obtain ⟨cs, t, fr, g1, g2⟩ := hr.at_ el (by simp)
        obtain ⟨_, gb, _⟩ := hg gPow T.glt
        rw [gb] at g1
        refine ⟨rfl, UponR.of_calls (body_enter e1 e2 e3 _ w) fun n' => wide ((T.itoaT n hn2 w cs t fr g1 (tab_vals g2)).mono fun e w' ⟨h1, h2⟩ => ⟨_, μ, h1, Mp.le_refl _, hr.grow h2, rfl⟩)⟩
    · simp only [h1, decide_false, cond_false] at hv
      rw [beqN] at hv
      by_cases h2 : f = cc
      · subst h2
        simp only [decide_true, cond_true] at hv
        split at hv <;> try (simp at hv; done)
        rename_i id
        split at hv <;> try (simp at hv; done)
        rename_i b t eo
        rw [beqN] at hv
        by_cases ht : t = tB
        · subst ht
          simp only [decide_true, cond_true, Option.some.injEq, Prod.mk.injEq] at hv
          obtain ⟨rfl, rfl⟩ := hv
          obtain ⟨u, rfl, hu⟩ := one_arg ha
          obtain ⟨fn, e1, e2, e3⟩ := T.ecc
          have hob := hr.at_ eo (by simp)
          simp only [VR] at hu
          obtain ⟨hid, rfl⟩ := hu
          obtain ⟨cs, fr, g1, g2, g3, g4, g5, g6⟩ := hob
          obtain ⟨nb, nf, b0, sz⟩ := g6 rfl
          have sz2 : cs.size = 2 := sz rfl
          rw [b0] at nf g5 ⊢
          obtain ⟨v0, k1, k2⟩ := g5 0 (.p none) rfl
          simp only [VR] at k2; subst k2
          have c1 : w.cell? ⟨(μ.f id).blk, 0, none⟩ = some (.pointer none) := by simp only [World.cell?, g1, Option.isSome_none, Bool.false_eq_true, if_false]; exact k1
          have c2 : w.shape? (μ.f id).blk = some (t, 2) := by simp [World.shape?, g1, sz2]
          have c3 : w.frozen? ⟨(μ.f id).blk, 0, none⟩ = false := by
            have := nf 0 (Nat.le_refl _) (by omega)
            simp only [World.frozen?, g1]
            simp only [Nat.zero_add, Nat.le_zero_eq] at this
            rw [Bool.and_eq_false_iff, decide_eq_false_iff_not, decide_eq_false_iff_not]; omega
          have r3 := hr.store eo (off := 0) (xs := [.p (some (id, 0))]) (us := [.pointer (some ⟨(μ.f id).blk, 0, none⟩)]) ⟨_, _, rfl, ⟨hid, by rw [b0]⟩, rfl⟩ (by simp) (by simp only [List.length_cons, List.length_nil] at g3 ⊢; omega)
          rw [b0] at r3
          refine ⟨rfl, UponR.of_calls (body_enter e1 e2 e3 _ w) fun n' => wide ((T.copy (μ.f id).blk w c1 c2 c3).mono fun e w' ⟨h1, h2⟩ => ⟨_, μ, h1, Mp.le_refl _, by rw [h2]; exact r3, by simp [VR, VRs]⟩)⟩
        · simp [ht] at hv
      · simp only [h2, decide_false, cond_false] at hv
        rw [beqN] at hv
        by_cases h3 : f = st
        · subst h3
          simp only [decide_true, cond_true] at hv
          split at hv <;> try (simp at hv; done)
          rename_i id
          obtain ⟨fn, e1, e2, e3⟩ := T.est
          obtain ⟨u, rfl, hu⟩ := one_arg ha
          simp only [VR] at hu
          obtain ⟨hid, rfl⟩ := hu
          split at hv <;> try (simp at hv; done)
          · rename_i p t eo
            rw [beqN] at hv
            by_cases ht : t = tB
            · subst ht
              simp only [decide_true, cond_true, Option.some.injEq, Prod.mk.injEq] at hv
              obtain ⟨rfl, rfl⟩ := hv
              have hob := hr.at_ eo (by simp)
              obtain ⟨cs, fr, g1, g2, g3, g4, g5, g6⟩ := hob
              obtain ⟨nb, nf, b0, sz⟩ := g6 rfl
              rw [b0] at g5 ⊢
              obtain ⟨v1, k1, k2⟩ := g5 1 .nsl rfl
              simp only [VR] at k2; subst k2
              have c1 : w.cell? ⟨(μ.f id).blk, 1, none⟩ = some (.slice none 0 0) := by simp only [World.cell?, g1, Option.isSome_none, Bool.false_eq_true, if_false]; exact k1
              refine ⟨rfl, UponR.of_calls (body_enter e1 e2 e3 _ w) fun n' => wide ((T.str0 (μ.f id).blk w c1).mono fun e w' ⟨h1, h2⟩ => ⟨_, μ, h1, Mp.le_refl _, hr.grow h2, rfl⟩)⟩
            · simp [ht] at hv
          · rename_i p bid len t eo
            rw [beqN] at hv
            by_cases ht : t = tB
            · subst ht
              simp only [decide_true, cond_true] at hv
              have hob := hr.at_ eo (by simp)
              obtain ⟨cs, fr, g1, g2, g3, g4, g5, g6⟩ := hob
              obtain ⟨nb, nf, b0, sz⟩ := g6 rfl
              rw [b0] at g5 ⊢
              obtain ⟨v1, k1, k2⟩ := g5 1 (.sl bid 0 len none) rfl
              simp only [VR] at k2
              obtain ⟨hbid, cap, rfl, hlc, hlim, _⟩ := k2
              have c1 : w.cell? ⟨(μ.f id).blk, 1, none⟩ = some (.slice (some ⟨(μ.f bid).blk, (μ.f bid).base + 0, none⟩) len cap) := by simp only [World.cell?, g1, Option.isSome_none, Bool.false_eq_true, if_false]; exact k1
              have fin : ∀ (l : List AV) (x : List UInt8), strL l = some x → l.length = len → len ≠ 0 → len ≤ 140737488355328 → bid ≠ id → (∃ (t2 : Nat) (o : AO) (cs2 : Array Value) (fr2 : Nat × Nat), t2 = tU ∧ H.get bid = o ∧ o.owns = true ∧ w.heap[(μ.f bid).blk]? = some (.cells cs2 tU fr2) ∧ (μ.f bid).base = 0 ∧ (μ.f bid).sz = 1 ∧ (μ.f bid).lim ≤ cs2.size ∧ (∀ (j : Nat) (y : AV), l[j]? = some y → ∃ v, cs2[j]? = some v ∧ VR μ y v)) → v = .s x → H' = H.put bid (.froz l tU) → H'.marks = H.marks ∧ CalR P B w0 μ H' v #[Value.pointer (some ⟨(μ.f id).blk, 0, none⟩)] w (.f f) := by
                rintro l x hx hlen hne hmx hb ⟨t2, o, cs2, fr2, rfl, ho, hown, hc2, hb0, hsz1, hlm, hcell⟩ rfl rfl
                have hxl := strL_some _ _ hx
                have xl : x.length = len := by rw [hxl] at hlen; simpa using hlen
                have x0 : x ≠ [] := fun e => hne (by rw [← xl, e]; rfl)
                have T1 := T.str (μ.f id).blk (μ.f bid).blk cap cs2.size x w x0 (by omega) (by rw [hb0, hsz1] at hlim; omega) (by omega) (by rw [xl]; rw [hb0] at c1; exact c1) (by simp [World.shape?, hc2]) (fun j c hj => by
                  obtain ⟨u, u1, u2⟩ := hcell j (.i .u8 c.toNat) (by rw [hxl, List.getElem?_map, hj]; rfl)
                  simp only [VR] at u2; subst u2
                  simp only [World.cell?, hc2, Option.isSome_none, Bool.false_eq_true, if_false]; exact u1)
                refine ⟨rfl, UponR.of_calls (body_enter e1 e2 e3 _ w) fun n' => wide (T1.mono fun e w' ⟨h1, w1, hw1, hbl, h2⟩ => ⟨_, μ, h1, Mp.le_refl _, ?_, rfl⟩)⟩
                have hr1 := hr.grow hbl
                have hc2' : w1.heap[(μ.f bid).blk]? = some (.cells cs2 t2 fr2) := by rw [hw1]; exact hc2
                obtain ⟨⟨fr', f1⟩, f2⟩ := freeze_at (w := w1) (n := x.length) hc2' (by omega)
                have nB := (hr.at_ ho (owns_live hown)).ge hown
                rw [h2]
                refine hr1.put ho hown ⟨?_, ?_, ?_, ?_, fun k hk => f2 k (fun e => nB (e ▸ hk))⟩ f2 rfl ⟨cs2, fr', f1, ⟨hb0, hsz1, hlm⟩, ?_, hcell, nB⟩
                all_goals (first | (unfold World.freeze; split <;> rfl) | (unfold World.freeze; split <;> simp; done) | (rw [hb0, hsz1] at hlim; omega))
              have cut : ∀ {t2 : Nat} {l : List AV}, (bif Nat.beq t2 tU && Nat.beq l.length len && !Nat.beq bid id && !Nat.beq len 0 && Nat.ble len 140737488355328 then (match strL l with
                | some x => (some (AV.s x, H.put bid (.froz l t2)) : Option (AV × Mem))
                | none => none) else none) = some (v, H') → t2 = tU ∧ l.length = len ∧ bid ≠ id ∧ len ≠ 0 ∧ len ≤ 140737488355328 ∧ ∃ x, strL l = some x ∧ v = .s x ∧ H' = H.put bid (.froz l t2) := by
                intro t2 l h
                rw [beqN, beqN, beqN, beqN] at h
                by_cases c1 : t2 = tU <;> by_cases c2 : l.length = len <;> by_cases c3 : bid = id <;> by_cases c4 : len = 0 <;> by_cases c5 : len ≤ 140737488355328 <;> simp only [bleN2, c5, c1, c2, c3, c4, decide_true, decide_false, Bool.true_and, Bool.false_and, Bool.and_false, Bool.not_true, Bool.not_false, Bool.and_true, cond_true, cond_false, reduceCtorEq] at h
                split at h
                · rename_i x hx
                  simp only [Option.some.injEq, Prod.mk.injEq] at h
                  exact ⟨c1, c2, c3, c4, c5, x, hx, h.1.symm, by rw [c1]; exact h.2.symm⟩
                · cases h
              split at hv
              · rename_i l t2 frz eb
                obtain ⟨q1, q2, q3, q4, q8, x, q5, q6, q7⟩ := cut hv
                obtain ⟨cs2, fr2, p1, p2, p3, p4, p5, p6⟩ := hr.at_ eb (by simp)
                obtain ⟨_, _, b2, _⟩ := p6 rfl
                subst q1
                exact fin l x q5 q2 q4 q8 q3 ⟨_, _, cs2, fr2, rfl, eb, rfl, p1, b2, p4, p2, fun j y hj => by have := p5 j y hj; rw [b2] at this; simpa using this⟩ q6 q7
              · rename_i l t2 eb
                obtain ⟨q1, q2, q3, q4, q8, x, q5, q6, q7⟩ := cut hv
                obtain ⟨cs2, fr2, p1, ⟨p2, p3, p4⟩, p5, p6, p7⟩ := hr.at_ eb (by simp)
                subst q1
                exact fin l x q5 q2 q4 q8 q3 ⟨_, _, cs2, fr2, rfl, eb, rfl, p1, p2, p3, p4, p6⟩ q6 q7
              · cases hv
            · simp [ht] at hv
        · simp [h3] at hv
  | b f => simp [extR] at hv
  | y l => simp [extR] at hv
theorem Xr_ok (T1 : Told P n_internal_bytealg_IndexByteString n_internal_bytealg_CountString n_strings_Join) (T2 : ToldR P n_strconv_Itoa n_strings_Builder_copyCheck n_strings_Builder_String ty_strings_Builder ty_uint8) : CallOK P B w0 Xr := by
  intro c args H v H' μ w us hv hr hg ha
  unfold Xr at hv
  split at hv
  · rename_i r e
    cases hv
    exact extA_ok T1 c args H v H' μ w us e hr hg ha
  · exact extR_ok T2 c args H v H' μ w us hv hr hg ha
end Go.Fw.Ro
end
section
/-
  DERIVED: THE SHELF's CONTRACTS AT THIS DUMP, IN PLAIN WORDS (tools/lay-plain.mjs out of 'TryzShelf.lean', which tools/lay-shelf.mjs wrote): THE SAME DECLARATIONS UNDER THE SAME NAMES: 'import', 'namespace', 'open', 'def', 'theorem' AND NOTHING ELSE: no command of the shelf's: FOR A HAND-IN. Each laying: the table of numbers ('.._ren') and one theorem, a field a fact of the dump's own or the kernel's comparison; each contract: ONE APPLICATION.
-/
namespace Go.Proofs
open Go.Shelf
def Tryz.lays169_ren : Go.Shelf.Ren := ⟨fun | 169 => 26 | n => n, fun | 70 => 67 | 9 => 9 | 0 => 0 | 72 => 69 | 37 => 45 | 127 => 90 | 3 => 3 | 5 => 5 | n => n, fun | n => n⟩
theorem Tryz.lays169 : Go.Proofs.Lays.n169 Tryz.prog Tryz.lays169_ren := {
  mixed := by kernel_rfl
  f169 := Tryz.func26.trans (congrArg some (by kernel_rfl))
  t0 := Tryz.underlying0
  a0 := Tryz.isAgg0
  z0 := Tryz.sizeOf0
  v0 := Tryz.zeroValue0
  t3 := Tryz.underlying3
  a3 := Tryz.isAgg3
  z3 := Tryz.sizeOf3
  v3 := Tryz.zeroValue3
  t9 := Tryz.underlying9
  a9 := Tryz.isAgg9
  z9 := Tryz.sizeOf9
  v9 := Tryz.zeroValue9
  t37 := Tryz.underlying45
  a37 := Tryz.isAgg45
  z37 := Tryz.sizeOf45
  v37 := Tryz.zeroValue45
  t70 := Tryz.underlying67
  a70 := Tryz.isAgg67
  z70 := Tryz.sizeOf67
  v70 := Tryz.zeroValue67
  t72 := Tryz.underlying69
  a72 := Tryz.isAgg69
  z72 := Tryz.sizeOf69
  v72 := Tryz.zeroValue69
  t127 := Tryz.underlying90
  a127 := Tryz.isAgg90
  z127 := Tryz.sizeOf90
  v127 := Tryz.zeroValue90 }
theorem Tryz.Builder_Extra_169 : Builder.Extra Tryz.prog Tryz.lays169_ren := {
  sizeBuilder := by kernel_rfl
  liesBuilder := by kernel_rfl
  t5 := Tryz.underlying5
  a5 := Tryz.isAgg5
  z5 := Tryz.sizeOf5
  v5 := Tryz.zeroValue5
  infoByte := by kernel_rfl
  cellsByte := by kernel_rfl
  sizeByte := by kernel_rfl
  neB5 := by decide }
def Tryz.lays156_ren : Go.Shelf.Ren := ⟨fun | 156 => 58 | 165 => 74 | 166 => 23 | 169 => 26 | 240 => 40 | 241 => 93 | 276 => 56 | 277 => 105 | n => n, fun | 31 => 29 | 9 => 9 | 3 => 3 | 4 => 4 | 0 => 0 | 20 => 20 | 72 => 69 | 76 => 72 | 70 => 67 | 37 => 45 | 75 => 71 | 127 => 90 | 164 => 95 | 5 => 5 | 80 => 76 | n => n, fun | n => n⟩
theorem Tryz.lays156 : Go.Proofs.Lays.n156 Tryz.prog Tryz.lays156_ren := {
  mixed := by kernel_rfl
  f156 := Tryz.func58.trans (congrArg some (by kernel_rfl))
  f165 := Tryz.func74.trans (congrArg some (by kernel_rfl))
  f166 := Tryz.func23.trans (congrArg some (by kernel_rfl))
  f169 := Tryz.func26.trans (congrArg some (by kernel_rfl))
  f240 := Tryz.func40.trans (congrArg some (by kernel_rfl))
  f241 := Tryz.func93.trans (congrArg some (by kernel_rfl))
  f276 := Tryz.func56.trans (congrArg some (by kernel_rfl))
  f277 := Tryz.func105.trans (congrArg some (by kernel_rfl))
  t0 := Tryz.underlying0
  a0 := Tryz.isAgg0
  z0 := Tryz.sizeOf0
  v0 := Tryz.zeroValue0
  t3 := Tryz.underlying3
  a3 := Tryz.isAgg3
  z3 := Tryz.sizeOf3
  v3 := Tryz.zeroValue3
  t4 := Tryz.underlying4
  a4 := Tryz.isAgg4
  z4 := Tryz.sizeOf4
  v4 := Tryz.zeroValue4
  t9 := Tryz.underlying9
  a9 := Tryz.isAgg9
  z9 := Tryz.sizeOf9
  v9 := Tryz.zeroValue9
  t20 := Tryz.underlying20
  a20 := Tryz.isAgg20
  z20 := Tryz.sizeOf20
  v20 := Tryz.zeroValue20
  t31 := Tryz.underlying29
  a31 := Tryz.isAgg29
  z31 := Tryz.sizeOf29
  v31 := Tryz.zeroValue29
  t37 := Tryz.underlying45
  a37 := Tryz.isAgg45
  z37 := Tryz.sizeOf45
  v37 := Tryz.zeroValue45
  t70 := Tryz.underlying67
  a70 := Tryz.isAgg67
  z70 := Tryz.sizeOf67
  v70 := Tryz.zeroValue67
  t72 := Tryz.underlying69
  a72 := Tryz.isAgg69
  z72 := Tryz.sizeOf69
  v72 := Tryz.zeroValue69
  t75 := Tryz.underlying71
  a75 := Tryz.isAgg71
  z75 := Tryz.sizeOf71
  v75 := Tryz.zeroValue71
  t76 := Tryz.underlying72
  a76 := Tryz.isAgg72
  z76 := Tryz.sizeOf72
  v76 := Tryz.zeroValue72
  t127 := Tryz.underlying90
  a127 := Tryz.isAgg90
  z127 := Tryz.sizeOf90
  v127 := Tryz.zeroValue90
  t164 := Tryz.underlying95
  a164 := Tryz.isAgg95
  z164 := Tryz.sizeOf95
  v164 := Tryz.zeroValue95 }
theorem Tryz.Builder_Extra_156 : Builder.Extra Tryz.prog Tryz.lays156_ren := {
  sizeBuilder := by kernel_rfl
  liesBuilder := by kernel_rfl
  t5 := Tryz.underlying5
  a5 := Tryz.isAgg5
  z5 := Tryz.sizeOf5
  v5 := Tryz.zeroValue5
  infoByte := by kernel_rfl
  cellsByte := by kernel_rfl
  sizeByte := by kernel_rfl
  neB5 := by decide }
open Go.RowKit in
theorem Tryz.strings_Join_none (a : Option Addr) (c : Nat) (sep : ByteArray) (w : World) :
    Calls Tryz.prog 58 #[.slice a 0 c, .string sep] w fun e w' => e = .returned (.string ⟨#[]⟩) ∧ w' = w := Any.strings_Join_none Tryz.lays156 Tryz.Builder_Extra_156 a c sep w
open Go.RowKit in
theorem Tryz.strings_Join (bk o c : Nat) (xs : List ByteArray) (sep : ByteArray) (w : World) (hcells : ∀ (j : Nat) x, xs[j]? = some x → w.cell? ⟨bk, o + j, none⟩ = some (.string x)) (hbk : bk < w.heap.size) (hN : xs.length ≤ 140737488355328) (hcap : xs.length ≤ c) (hlen : (Lib.join (xs.map (·.data.toList)) sep.data.toList).length ≤ 140737488355328) :
    Calls Tryz.prog 58 #[.slice (some ⟨bk, o, none⟩) xs.length c, .string sep] w fun e w' => e = .returned (.string ⟨(Lib.join (xs.map (·.data.toList)) sep.data.toList).toArray⟩) ∧ Below w.heap.size w w' := Any.strings_Join Tryz.lays156 Tryz.Builder_Extra_156 bk o c xs sep w hcells hbk hN hcap hlen
def Tryz.laysM171_ren : Go.Shelf.Ren := ⟨fun | 171 => 42 | 243 => 57 | 246 => 73 | 283 => 89 | 284 => 90 | 285 => 91 | 286 => 92 | 129 => 101 | 317 => 100 | 318 => 102 | 319 => 103 | 320 => 104 | 337 => 109 | 338 => 110 | n => n, fun | 3 => 3 | 9 => 9 | 2 => 2 | 4 => 4 | 171 => 119 | 0 => 0 | 53 => 120 | 37 => 45 | 5 => 5 | 173 => 123 | 212 => 139 | 51 => 131 | 20 => 20 | 213 => 140 | 46 => 49 | 232 => 150 | 233 => 151 | n => n, fun | 17 => 5 | 18 => 6 | 19 => 7 | n => n⟩
theorem Tryz.laysM171 : Go.Proofs.LaysM.n171 Tryz.prog Tryz.laysM171_ren := {
  mixed := by kernel_rfl
  f129 := Tryz.func101.trans (congrArg some (by kernel_rfl))
  f171 := Tryz.func42.trans (congrArg some (by kernel_rfl))
  f243 := Tryz.func57.trans (congrArg some (by kernel_rfl))
  f246 := Tryz.func73.trans (congrArg some (by kernel_rfl))
  f283 := Tryz.func89.trans (congrArg some (by kernel_rfl))
  f284 := Tryz.func90.trans (congrArg some (by kernel_rfl))
  f285 := Tryz.func91.trans (congrArg some (by kernel_rfl))
  f286 := Tryz.func92.trans (congrArg some (by kernel_rfl))
  f317 := Tryz.func100.trans (congrArg some (by kernel_rfl))
  f318 := Tryz.func102.trans (congrArg some (by kernel_rfl))
  f319 := Tryz.func103.trans (congrArg some (by kernel_rfl))
  f320 := Tryz.func104.trans (congrArg some (by kernel_rfl))
  f337 := Tryz.func109.trans (congrArg some (by kernel_rfl))
  f338 := Tryz.func110.trans (congrArg some (by kernel_rfl))
  t0 := Tryz.underlying0
  a0 := Tryz.isAgg0
  z0 := Tryz.sizeOf0
  v0 := Tryz.zeroValue0
  t2 := Tryz.underlying2
  a2 := Tryz.isAgg2
  z2 := Tryz.sizeOf2
  v2 := Tryz.zeroValue2
  t3 := Tryz.underlying3
  a3 := Tryz.isAgg3
  z3 := Tryz.sizeOf3
  v3 := Tryz.zeroValue3
  t4 := Tryz.underlying4
  a4 := Tryz.isAgg4
  z4 := Tryz.sizeOf4
  v4 := Tryz.zeroValue4
  t5 := Tryz.underlying5
  a5 := Tryz.isAgg5
  z5 := Tryz.sizeOf5
  v5 := Tryz.zeroValue5
  t9 := Tryz.underlying9
  a9 := Tryz.isAgg9
  z9 := Tryz.sizeOf9
  v9 := Tryz.zeroValue9
  t20 := Tryz.underlying20
  a20 := Tryz.isAgg20
  z20 := Tryz.sizeOf20
  v20 := Tryz.zeroValue20
  t37 := Tryz.underlying45
  a37 := Tryz.isAgg45
  z37 := Tryz.sizeOf45
  v37 := Tryz.zeroValue45
  t46 := Tryz.underlying49
  a46 := Tryz.isAgg49
  z46 := Tryz.sizeOf49
  v46 := Tryz.zeroValue49
  t51 := Tryz.underlying131
  a51 := Tryz.isAgg131
  z51 := Tryz.sizeOf131
  v51 := Tryz.zeroValue131
  t53 := Tryz.underlying120
  a53 := Tryz.isAgg120
  z53 := Tryz.sizeOf120
  v53 := Tryz.zeroValue120
  t171 := Tryz.underlying119
  a171 := Tryz.isAgg119
  z171 := Tryz.sizeOf119
  v171 := Tryz.zeroValue119
  t173 := Tryz.underlying123
  a173 := Tryz.isAgg123
  z173 := Tryz.sizeOf123
  v173 := Tryz.zeroValue123
  t212 := Tryz.underlying139
  a212 := Tryz.isAgg139
  z212 := Tryz.sizeOf139
  v212 := Tryz.zeroValue139
  t213 := Tryz.underlying140
  a213 := Tryz.isAgg140
  z213 := Tryz.sizeOf140
  t232 := Tryz.underlying150
  a232 := Tryz.isAgg150
  z232 := Tryz.sizeOf150
  v232 := Tryz.zeroValue150
  t233 := Tryz.underlying151
  a233 := Tryz.isAgg151
  z233 := Tryz.sizeOf151
  v233 := Tryz.zeroValue151
  g17 := by kernel_rfl
  g18 := by kernel_rfl
  g19 := by kernel_rfl
  i0 := by kernel_rfl
  i2 := by kernel_rfl
  i3 := by kernel_rfl
  i4 := by kernel_rfl
  i5 := by kernel_rfl
  i9 := by kernel_rfl
  i20 := by kernel_rfl
  i37 := by kernel_rfl
  i46 := by kernel_rfl
  i51 := by kernel_rfl
  i53 := by kernel_rfl
  i171 := by kernel_rfl
  i173 := by kernel_rfl
  i212 := by kernel_rfl
  i232 := by kernel_rfl
  i233 := by kernel_rfl
  m17 := by kernel_rfl
  m18 := by kernel_rfl
  m19 := by kernel_rfl }
open Go.RowKit Go.Sort Go.Lib in
theorem Tryz.strconv_Itoa (n : Int) (h0 : -9223372036854775808 ≤ n) (h1 : n ≤ 9223372036854775807) (w : World) (htab : Lib.TabIs Tryz.prog w "internal/strconv.uint64pow10" .u64 Lib.pow10Tab) :
    Calls Tryz.prog 42 #[.int .i64 n] w fun e w' => e = .returned (.string ⟨(Lib.itoa n).toArray⟩) ∧ ∃ k os, w' = grow (w.drewN k) os := Any.strconv_Itoa Tryz.laysM171 n h0 h1 w htab
def Tryz.lays171_ren : Go.Shelf.Ren := ⟨fun | 171 => 42 | 243 => 57 | 246 => 73 | 283 => 89 | 284 => 90 | 285 => 91 | 286 => 92 | 129 => 101 | 317 => 100 | 318 => 102 | 319 => 103 | 320 => 104 | 337 => 109 | 338 => 110 | n => n, fun | 3 => 3 | 9 => 9 | 2 => 2 | 4 => 4 | 171 => 119 | 0 => 0 | 53 => 120 | 37 => 45 | 5 => 5 | 173 => 123 | 212 => 139 | 51 => 131 | 20 => 20 | 213 => 140 | 46 => 49 | 232 => 150 | 233 => 151 | n => n, fun | 17 => 5 | 18 => 6 | 19 => 7 | n => n⟩
theorem Tryz.lays171 : Go.Proofs.Lays.n171 Tryz.prog Tryz.lays171_ren := {
  mixed := by kernel_rfl
  f129 := Tryz.func101.trans (congrArg some (by kernel_rfl))
  f171 := Tryz.func42.trans (congrArg some (by kernel_rfl))
  f243 := Tryz.func57.trans (congrArg some (by kernel_rfl))
  f246 := Tryz.func73.trans (congrArg some (by kernel_rfl))
  f283 := Tryz.func89.trans (congrArg some (by kernel_rfl))
  f284 := Tryz.func90.trans (congrArg some (by kernel_rfl))
  f285 := Tryz.func91.trans (congrArg some (by kernel_rfl))
  f286 := Tryz.func92.trans (congrArg some (by kernel_rfl))
  f317 := Tryz.func100.trans (congrArg some (by kernel_rfl))
  f318 := Tryz.func102.trans (congrArg some (by kernel_rfl))
  f319 := Tryz.func103.trans (congrArg some (by kernel_rfl))
  f320 := Tryz.func104.trans (congrArg some (by kernel_rfl))
  f337 := Tryz.func109.trans (congrArg some (by kernel_rfl))
  f338 := Tryz.func110.trans (congrArg some (by kernel_rfl))
  t0 := Tryz.underlying0
  a0 := Tryz.isAgg0
  z0 := Tryz.sizeOf0
  v0 := Tryz.zeroValue0
  t2 := Tryz.underlying2
  a2 := Tryz.isAgg2
  z2 := Tryz.sizeOf2
  v2 := Tryz.zeroValue2
  t3 := Tryz.underlying3
  a3 := Tryz.isAgg3
  z3 := Tryz.sizeOf3
  v3 := Tryz.zeroValue3
  t4 := Tryz.underlying4
  a4 := Tryz.isAgg4
  z4 := Tryz.sizeOf4
  v4 := Tryz.zeroValue4
  t5 := Tryz.underlying5
  a5 := Tryz.isAgg5
  z5 := Tryz.sizeOf5
  v5 := Tryz.zeroValue5
  t9 := Tryz.underlying9
  a9 := Tryz.isAgg9
  z9 := Tryz.sizeOf9
  v9 := Tryz.zeroValue9
  t20 := Tryz.underlying20
  a20 := Tryz.isAgg20
  z20 := Tryz.sizeOf20
  v20 := Tryz.zeroValue20
  t37 := Tryz.underlying45
  a37 := Tryz.isAgg45
  z37 := Tryz.sizeOf45
  v37 := Tryz.zeroValue45
  t46 := Tryz.underlying49
  a46 := Tryz.isAgg49
  z46 := Tryz.sizeOf49
  v46 := Tryz.zeroValue49
  t51 := Tryz.underlying131
  a51 := Tryz.isAgg131
  z51 := Tryz.sizeOf131
  v51 := Tryz.zeroValue131
  t53 := Tryz.underlying120
  a53 := Tryz.isAgg120
  z53 := Tryz.sizeOf120
  v53 := Tryz.zeroValue120
  t171 := Tryz.underlying119
  a171 := Tryz.isAgg119
  z171 := Tryz.sizeOf119
  v171 := Tryz.zeroValue119
  t173 := Tryz.underlying123
  a173 := Tryz.isAgg123
  z173 := Tryz.sizeOf123
  v173 := Tryz.zeroValue123
  t212 := Tryz.underlying139
  a212 := Tryz.isAgg139
  z212 := Tryz.sizeOf139
  v212 := Tryz.zeroValue139
  t213 := Tryz.underlying140
  a213 := Tryz.isAgg140
  z213 := Tryz.sizeOf140
  t232 := Tryz.underlying150
  a232 := Tryz.isAgg150
  z232 := Tryz.sizeOf150
  v232 := Tryz.zeroValue150
  t233 := Tryz.underlying151
  a233 := Tryz.isAgg151
  z233 := Tryz.sizeOf151
  v233 := Tryz.zeroValue151
  g17 := by kernel_rfl
  g18 := by kernel_rfl
  g19 := by kernel_rfl }
open Go.RowKit Go.Sort Go.Lib in
theorem Tryz.strconv_Itoa_small (i : Nat) (hi : i < 100) (w : World) :
    Calls Tryz.prog 42 #[.int .i64 i] w fun e w' => e = .returned (.string ⟨(Lib.decDigits i).toArray⟩) ∧ w' = w := Any.strconv_Itoa_small Tryz.lays171 i hi w
end Go.Proofs
end
section
/- The told calls, at this program. -/
namespace Go.Fw.Ro
open Go Go.Fw Go.RowKit Go.Proofs Go.Shelf
set_option maxRecDepth 100000
theorem told_ok : Told Tryz.prog n_internal_bytealg_IndexByteString n_internal_bytealg_CountString n_strings_Join where
  eib := ⟨_, Tryz.func88, by kernel_rfl, by kernel_rfl, by kernel_rfl, by kernel_rfl⟩
  ecs := ⟨_, Tryz.func50, by kernel_rfl, by kernel_rfl, by kernel_rfl, by kernel_rfl⟩
  ejn := ⟨_, Tryz.func58, by kernel_rfl, by kernel_rfl⟩
  join0 := fun a c sep w => Tryz.strings_Join_none a c sep w
  join := fun bk o c xs sep w h1 h2 h3 h4 h5 => Tryz.strings_Join bk o c xs sep w h1 h2 h3 h4 h5
theorem told_ok2 : ToldR Tryz.prog n_strconv_Itoa n_strings_Builder_copyCheck n_strings_Builder_String ty_strings_Builder ty_uint8 where
  eit := ⟨_, Tryz.func42, by kernel_rfl, by kernel_rfl⟩
  ecc := ⟨_, Tryz.func40, by kernel_rfl, by kernel_rfl⟩
  est := ⟨_, Tryz.func26, by kernel_rfl, by kernel_rfl⟩
  itoa := fun i h w => Tryz.strconv_Itoa_small i h w
  glt := of_decide_eq_true (by kernel_rfl)
  itoaT := fun i h w cs t fr h1 h2 => (Tryz.strconv_Itoa i (by omega) (by omega) w (by
    have e : Tryz.prog.globalNamed "internal/strconv.uint64pow10" = some gPow := by kernel_rfl
    unfold Lib.TabIs World.var?
    rw [e, Option.bind_some, h1, ← h2])).mono fun e w' ⟨k1, k, os, k2⟩ => ⟨by rw [k1]; simp [Lib.itoa], by rw [k2]; exact Lib.below_grow _ w (Nat.le_refl _) k os⟩
  copy := fun b w h1 h2 h3 => Any.Builder_copyCheck_fresh (P := Tryz.prog) (ρ := Tryz.lays156_ren) { Tryz.lays156 with } Tryz.Builder_Extra_156.toX72 b w h1 h2 h3
  str0 := fun b w h => builder_string0 (P := Tryz.prog) (ρ := Tryz.lays169_ren) Tryz.lays169 Tryz.Builder_Extra_169 b w h
  str := fun b g cap n l w h0 h1 h2 h3 h4 h5 h6 => builder_string (P := Tryz.prog) (ρ := Tryz.lays169_ren) Tryz.lays169 Tryz.Builder_Extra_169 b g cap n l w h0 h1 h2 h3 h4 h5 h6
theorem X_ok {B : Bd} {w0 : World} : CallOK Tryz.prog B w0 S.X := Xr_ok told_ok told_ok2
end Go.Fw.Ro
end
section
/- The system's functions are the program's (printed by mkk.py). -/
namespace Go.Fw.Ro
open Go Go.Fw Go.Proofs
set_option maxRecDepth 100000
theorem fT_all : T.allP (fun f af => compF Tryz.prog f = some af) fT (fun k => k) := ⟨trivial, ⟨trivial, ⟨c_entaillaw13_RoleTells, ⟨c_entailref13_Fact, ⟨c_entailref1_Name, ⟨c_role_number, ⟨c_strings_trimRightASCII, trivial, trivial⟩, trivial⟩, ⟨c_atom_first, trivial, trivial⟩⟩, ⟨c_strings_Builder_WriteString, ⟨c_entaillaw1_Nm, ⟨c_internal_stringslite_TrimSuffix, trivial, trivial⟩, trivial⟩, ⟨c_strings_IndexByte, ⟨c_internal_stringslite_HasSuffix, trivial, trivial⟩, trivial⟩⟩⟩, ⟨c_entaillaw12_Tame, ⟨c_entailref13_number, ⟨c_line_bare, ⟨c_strconv_toError, trivial, trivial⟩, trivial⟩, ⟨c_strings_Index, trivial, trivial⟩⟩, ⟨c_slices_EqualFunc_api_Fact_api_Fact_api_Fact_api_Fact, ⟨c_line_Join, ⟨c_strings_asciiSet_contains, trivial, trivial⟩, trivial⟩, ⟨c_strings_trimLeftByte, trivial, trivial⟩⟩⟩⟩, ⟨c_entaillaw13_awake, ⟨c_role_Parse, ⟨c__role_form_fill, ⟨c_strings_Count, trivial, trivial⟩, trivial⟩, ⟨c_strings_Builder_Len, ⟨c_role_keyword, trivial, trivial⟩, trivial⟩⟩, ⟨c_role_Text, ⟨c_entailref1_Lines, ⟨c_line_words, ⟨c_strings_splitSeq_1, trivial, trivial⟩, trivial⟩, ⟨c_strings_TrimSuffix, trivial, trivial⟩⟩, ⟨c_entailref1_SameTexts, ⟨c_strings_Trim, trivial, trivial⟩, ⟨c_strings_makeASCIISet, trivial, trivial⟩⟩⟩⟩⟩, ⟨trivial, ⟨trivial, ⟨c_entaillaw13_SameAt, ⟨c_role_formOf, ⟨c_atom_Name, trivial, trivial⟩, ⟨c_atom_plain, trivial, trivial⟩⟩, ⟨c_role_told, ⟨c_strings_Builder_copyCheck, ⟨c_internal_stringslite_IndexByte, trivial, trivial⟩, trivial⟩, trivial⟩⟩, ⟨c_entaillaw13_File, ⟨c_line_Lines, ⟨c_line_wrong, ⟨c_internal_stringslite_Index, trivial, trivial⟩, trivial⟩, ⟨c_strings_splitSeq, trivial, trivial⟩⟩, ⟨c_role_same, ⟨c_slices_Equal_string_string, trivial, trivial⟩, ⟨c_strings_trimRightByte, trivial, trivial⟩⟩⟩⟩, ⟨c_role_Fact, ⟨c_entailref13_Parse, ⟨c_entailref13_words, ⟨c_strings_SplitSeq, ⟨c_internal_strconv_Atoi, trivial, trivial⟩, trivial⟩, trivial⟩, ⟨c_strings_Builder_String, trivial, trivial⟩⟩, ⟨c_entailref13_SameFacts, ⟨c_entaillaw13_Line, ⟨c_entailref1_words, trivial, trivial⟩, ⟨c_strings_Contains, trivial, trivial⟩⟩, ⟨c_entailref1_alnum, ⟨c_strconv_Atoi, trivial, trivial⟩, ⟨c_strings_trimLeftASCII, trivial, trivial⟩⟩⟩⟩⟩⟩
theorem F_ok : ∀ f af, S.F f = some af → compF Tryz.prog f = some af := fun f af h => T.allP_get fT_all f af h
end Go.Fw.Ro
end
