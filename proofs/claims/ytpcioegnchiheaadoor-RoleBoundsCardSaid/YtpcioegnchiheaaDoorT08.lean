/- The law RoleBounds (entaillaw13) answers true at every input, without a panic, and its arguments read as they did; there are no conditions beyond those of the given card. -/
import Derived.Test.YtpcioegnchiheaaDoorT06
import Derived.Test.YtpcioegnchiheaaDoorT07
set_option linter.unusedSimpArgs false
set_option linter.unusedVariables false
set_option linter.constructorNameAsVariable false
set_option linter.unnecessarySimpa false
section
/- RoleBounds. -/
namespace Go.Fw.Ro
open Go Go.Fw Go.Fw.Sys
set_option maxRecDepth 100000
variable {H : Mem} {K : AV → Mem → Prop}
/-- The lines from i on, k of them; behind each even one a note, if there are notes. -/
def bdT (notes : Bool) : Nat → Nat → List UInt8
  | 0, _ => []
  | k + 1, i => 117 :: 115 :: 101 :: 114 :: 32 :: 97 :: 10 :: (if notes = true ∧ i % 2 = 0 then 35 :: 32 :: 120 :: 10 :: bdT notes k (i + 1) else bdT notes k (i + 1))
def bdP (notes : Bool) (i : Nat) : Int := 7 * i + (if notes = true then 4 * ((i + 1) / 2 : Nat) else 0)
def bdL (notes : Bool) : Nat → Nat → List LineT
  | 0, _ => []
  | k + 1, i => (bdP notes i, [([117, 115, 101, 114], bdP notes i), ([97], bdP notes i + 5)]) :: bdL notes k (i + 1)
theorem bdP_succ (notes : Bool) (i : Nat) : bdP notes (i + 1) = bdP notes i + (if notes = true ∧ i % 2 = 0 then 11 else 7) := by
  unfold bdP
  cases notes
  · simp; omega
  · simp only [if_true, true_and]
    split <;> omega
theorem bdT_len (notes : Bool) : ∀ (k i : Nat), ((bdT notes k i).length : Int) = bdP notes (i + k) - bdP notes i
  | 0, i => by simp [bdT]
  | k + 1, i => by
    have ih := bdT_len notes k (i + 1)
    have e := bdP_succ notes i
    rw [show i + (k + 1) = i + 1 + k by omega]
    rw [bdT]
    split
    · rename_i h; rw [if_pos h] at e; simp only [List.length_cons]; omega
    · rename_i h; rw [if_neg h] at e; simp only [List.length_cons]; omega
theorem bdT_cnt (notes : Bool) : ∀ (k i : Nat), cntOf (bdT notes k i) 10 ≤ 2 * k
  | 0, i => by simp [bdT, cntOf, cntF]
  | k + 1, i => by
    have ih := bdT_cnt notes k (i + 1)
    have c : ∀ (l : List UInt8) (b : UInt8), cntOf (b :: l) 10 = (if b = 10 then 1 else 0) + cntOf l 10 := by
      intro l b
      have e1 := cntF_eq 10 (b :: l) 0
      have e2 := cntF_eq 10 l 0
      simp only [List.count_cons] at e1
      unfold cntOf
      rw [show (10 : Nat) = 10 % 256 from rfl, e1, e2]
      have : ((10 : Nat).toUInt8) = (10 : UInt8) := rfl
      rw [this]
      by_cases h : b = 10 <;> simp [h]; omega
    rw [bdT]
    split <;> simp only [c] <;> simp <;> omega
theorem one_line (p : Int) : wordsF (trimEnd [117, 115, 101, 114, 32, 97] [13]).length (trimEnd [117, 115, 101, 114, 32, 97] [13]) p = [([117, 115, 101, 114], p), ([97], p + 4 + 1)] := rfl
theorem one_note (p : Int) : wordsF (trimEnd [35, 32, 120] [13]).length (trimEnd [35, 32, 120] [13]) p = [] := rfl
theorem bd_lines (notes : Bool) : ∀ (k i n : Nat) (acc : List LineT), (bdT notes k i).length ≤ n → linesG (piecesF n (bdT notes k i)) (bdP notes i) acc = .ok (acc ++ bdL notes k i)
  | 0, i, n, acc, h => by
    have e : piecesF n (bdT notes 0 i) = [[]] := by cases n <;> rfl
    rw [e]; simp [linesG, bdL]; rfl
  | k + 1, i, n, acc, h => by
    have ih := bd_lines notes k (i + 1)
    have e := bdP_succ notes i
    rw [bdT] at h ⊢
    have p7 : ∀ (m : Nat) (r : List UInt8), piecesF (m + 1) (117 :: 115 :: 101 :: 114 :: 32 :: 97 :: 10 :: r) = [117, 115, 101, 114, 32, 97] :: piecesF m r := fun m r => rfl
    have p4 : ∀ (m : Nat) (r : List UInt8), piecesF (m + 1) (35 :: 32 :: 120 :: 10 :: r) = [35, 32, 120] :: piecesF m r := fun m r => rfl
    have b7 : badAt (trimEnd [117, 115, 101, 114, 32, 97] [13]) 0 = -1 := rfl
    have b4 : badAt (trimEnd [35, 32, 120] [13]) 0 = -1 := rfl
    have st : ∀ (ps : List (List UInt8)) (q : Int), linesG ([117, 115, 101, 114, 32, 97] :: ps) q acc = linesG ps (q + 7) (acc ++ [(q, [([117, 115, 101, 114], q), ([97], q + 5)])]) := fun ps q => by
      rw [linesG, b7, if_neg (by omega), one_line]
      simp only [more1, List.length_cons, List.length_nil]
      rw [show q + 4 + 1 = q + 5 by omega, show q + ((0 + 1 + 1 + 1 + 1 + 1 + 1 : Nat) : Int) + 1 = q + 7 by omega]
    have st4 : ∀ (ps : List (List UInt8)) (q : Int) (a : List LineT), linesG ([35, 32, 120] :: ps) q a = linesG ps (q + 4) a := fun ps q a => by
      rw [linesG, b4, if_neg (by omega), one_note]
      simp only [more1, List.length_cons, List.length_nil]
      rw [show q + ((0 + 1 + 1 + 1 : Nat) : Int) + 1 = q + 4 by omega]
    obtain ⟨m, rfl⟩ : ∃ m, n = m + 1 := ⟨n - 1, by simp only [List.length_cons] at h; omega⟩
    rw [p7, st, bdL]
    split
    · rename_i hn
      rw [if_pos hn] at h e
      simp only [List.length_cons] at h
      obtain ⟨m, rfl⟩ : ∃ m', m = m' + 1 := ⟨m - 1, by omega⟩
      rw [p4, st4, show bdP notes i + 7 + 4 = bdP notes (i + 1) by omega, ih m _ (by omega), List.append_assoc]; rfl
    · rename_i hn
      rw [if_neg hn] at h e
      simp only [List.length_cons] at h
      rw [show bdP notes i + 7 = bdP notes (i + 1) by omega, ih m _ (by omega), List.append_assoc]; rfl
theorem bd_fact (p q : Int) : (factF (p, [([117, 115, 101, 114], p), ([97], q)])).2.2 = 0 := rfl
theorem bd_go (notes : Bool) : ∀ (k i : Nat) (acc : List FactT), acc.length = i → i ≤ 2000 → if i + k ≤ 2000 then (goF i (bdL notes k i) acc).2.2 = 0 ∧ (goF i (bdL notes k i) acc).1.length = i + k else goF i (bdL notes k i) acc = ([], bdP notes 2000, 8)
  | 0, i, acc, h, hi => by
    rw [if_pos (by omega), bdL, goF]
    exact ⟨rfl, h⟩
  | k + 1, i, acc, h, hi => by
    rw [bdL, goF]
    by_cases h2 : 2000 ≤ i
    · have : i = 2000 := by omega
      subst this
      rw [if_neg (by omega), if_pos h2]
    · rw [if_neg h2, if_pos (bd_fact _ _)]
      have ih := bd_go notes k (i + 1) (acc ++ [(factF (bdP notes i, [([117, 115, 101, 114], bdP notes i), ([97], bdP notes i + 5)])).1]) (by simp [h]) (by omega)
      rw [show i + 1 + k = i + (k + 1) by omega] at ih
      exact ih
theorem bd_parse (notes : Bool) (n : Nat) (hn : n ≤ 2003) : if n ≤ 2000 then (parseF (bdT notes n 0)).2.2 = 0 ∧ (parseF (bdT notes n 0)).1.length = n else parseF (bdT notes n 0) = ([], bdP notes 2000, 8) := by
  have hl := bdT_len notes n 0
  have h0 : bdP notes 0 = 0 := by cases notes <;> rfl
  have hlen : (bdT notes n 0).length ≤ 30000 := by
    rw [h0] at hl
    have : bdP notes (0 + n) ≤ 30000 := by
      unfold bdP
      split <;> omega
    omega
  have hc := bdT_cnt notes n 0
  have e : linesOf (bdT notes n 0) = (bdL notes n 0, 0, 0) := by
    unfold linesOf
    rw [if_neg (by omega)]
    have := bd_lines notes n 0 _ [] (Nat.le_refl _)
    rw [h0] at this
    rw [this]; rfl
  have := bd_go notes n 0 [] rfl (by omega)
  unfold parseF
  rw [e]
  simpa using this
theorem and_one (i : Nat) (h : i < 2147483648) : binA .and .int (.i .i64 (i : Int)) (.i .i64 1) = some (.i .i64 ((i % 2 : Nat) : Int)) := by
  rw [bin_and]
  have e : (BitVec.ofInt (IntKind.bits .i64) (i : Int) &&& BitVec.ofInt (IntKind.bits .i64) (1 : Int)).toNat = i % 2 := by
    rw [BitVec.toNat_and]
    simp only [BitVec.toNat_ofInt]
    have e1 : ((i : Int) % ((2 ^ (IntKind.bits .i64) : Nat) : Int)) = i := Int.emod_eq_of_lt (by omega) (by show (i : Int) < ((2 ^ 64 : Nat) : Int); omega)
    have e2 : ((1 : Int) % ((2 ^ (IntKind.bits .i64) : Nat) : Int)) = 1 := rfl
    rw [e1, e2]
    show i &&& 1 = _
    exact Nat.and_one_is_mod i
  rw [e, wrap_i64 (by omega) (by omega)]
theorem Bounds_loop {n : Nat} {notes : Bool} {Q : Ex → Tr → Mem → Prop} (hn : n ≤ 2003) : ∀ (r i : Nat) (f : Nat → AV) (s : List UInt8), i + r = n → s.length ≤ 11 * i → f 0 = .i .i64 n → f 1 = .b notes → f 5 = .s s → f 6 = .i .i64 i →
    (∀ f', f' 0 = .i .i64 n → f' 1 = .b notes → f' 5 = .s (s ++ bdT notes r i) → Q (.ex 0) (trO 65 f') H) → @W S false (.loop lp_entaillaw13_RoleBounds_0) (trO 65 f) H ⟨Q⟩ := by
  intro r
  induction r with
  | zero =>
    intro i f s hi hs f0 f1 f5 f6 k
    rw [w_loop]
    unfold lp_entaillaw13_RoleBounds_0
    simp (disch := first | omega | (simp only [List.length_cons, List.length_nil, true_and, and_true, nx_push, nx_put, nx_mark]; done) | (simp only [List.length_cons, List.length_nil, true_and, and_true, nx_push, nx_put, nx_mark]; omega)) only [go_sem, ↓reduceIte, Nat.reduceAdd, Nat.reduceMul, Nat.reduceSub, Int.reduceToNat, UInt8.reduceToNat, Nat.reduceLeDiff, Nat.reduceEqDiff, Nat.sub_zero, Int.add_zero, Int.zero_add, Nat.add_zero, Nat.zero_add, Nat.zero_mul, f0, f1, f5, f6]
    exact atQ 65 rfl (k _ rfl rfl (by rw [bdT, List.append_nil]; rfl))
  | succ r ih =>
    intro i f s hi hs f0 f1 f5 f6 k
    rw [w_loop]
    unfold lp_entaillaw13_RoleBounds_0
    have ha := and_one i (by omega)
    have l1 : (s ++ [117, 115, 101, 114, 32, 97, 10]).length = s.length + 7 := by simp
    have l2 : ((s ++ [117, 115, 101, 114, 32, 97, 10]) ++ [35, 32, 120, 10]).length = s.length + 11 := by simp
    cases notes with
    | false =>
      simp (disch := first | omega | (simp only [List.length_cons, List.length_nil, true_and, and_true, nx_push, nx_put, nx_mark]; done) | (simp only [List.length_cons, List.length_nil, true_and, and_true, nx_push, nx_put, nx_mark]; omega)) only [go_sem, ↓reduceIte, Nat.reduceAdd, Nat.reduceMul, Nat.reduceSub, Int.reduceToNat, UInt8.reduceToNat, Nat.reduceLeDiff, Nat.reduceEqDiff, Nat.sub_zero, Int.add_zero, Int.zero_add, Nat.add_zero, Nat.zero_add, Nat.zero_mul, f0, f1, f5, f6, ha]
      refine atW 65 rfl (ih (i + 1) _ (s ++ [117, 115, 101, 114, 32, 97, 10]) (by omega) (by omega) ?_ ?_ ?_ ?_ (fun f' a b c => k f' a b (by rw [c, bdT, if_neg (by simp), List.append_assoc]; rfl)))
      all_goals first | rfl | exact f0 | exact f1
    | true =>
      by_cases h2 : i % 2 = 0
      · simp (disch := first | omega | (simp only [List.length_cons, List.length_nil, true_and, and_true, nx_push, nx_put, nx_mark]; done) | (simp only [List.length_cons, List.length_nil, true_and, and_true, nx_push, nx_put, nx_mark]; omega)) only [go_sem, ↓reduceIte, Nat.reduceAdd, Nat.reduceMul, Nat.reduceSub, Int.reduceToNat, UInt8.reduceToNat, Nat.reduceLeDiff, Nat.reduceEqDiff, Nat.sub_zero, Int.add_zero, Int.zero_add, Nat.add_zero, Nat.zero_add, Nat.zero_mul, f0, f1, f5, f6, ha, h2]
        refine atW 65 rfl (ih (i + 1) _ ((s ++ [117, 115, 101, 114, 32, 97, 10]) ++ [35, 32, 120, 10]) (by omega) (by omega) ?_ ?_ ?_ ?_ (fun f' a b c => k f' a b (by rw [c, bdT, if_pos ⟨rfl, h2⟩, List.append_assoc, List.append_assoc]; rfl)))
        all_goals first | rfl | exact f0 | exact f1
      · have h3 : i % 2 = 1 := by omega
        simp (disch := first | omega | (simp only [List.length_cons, List.length_nil, true_and, and_true, nx_push, nx_put, nx_mark]; done) | (simp only [List.length_cons, List.length_nil, true_and, and_true, nx_push, nx_put, nx_mark]; omega)) only [go_sem, ↓reduceIte, Nat.reduceAdd, Nat.reduceMul, Nat.reduceSub, Int.reduceToNat, UInt8.reduceToNat, Nat.reduceLeDiff, Nat.reduceEqDiff, Nat.sub_zero, Int.add_zero, Int.zero_add, Nat.add_zero, Nat.zero_add, Nat.zero_mul, f0, f1, f5, f6, ha, h3]
        refine atW 65 rfl (ih (i + 1) _ (s ++ [117, 115, 101, 114, 32, 97, 10]) (by omega) (by omega) ?_ ?_ ?_ ?_ (fun f' a b c => k f' a b (by rw [c, bdT, if_neg (by simp [h2]), List.append_assoc]; rfl)))
        all_goals first | rfl | exact f0 | exact f1
theorem Bounds_run {a : Int} {notes : Bool} (hw : Wf H) (h : ∀ H', Ext H.next H H' → K (.b true) H') : @R S (.f n_entaillaw13_RoleBounds) [.i .i64 a, .b notes] H ⟨K⟩ := by
  refine run_fn2 rfl rfl ?_
  unfold bd_entaillaw13_RoleBounds
  obtain ⟨r, hr, e⟩ := and_lt a 7 (by omega)
  have hb : binA .and .int (.i .i64 a) (.i .i64 7) = some (.i .i64 (r : Int)) := by rw [bin_and]; exact congrArg (fun z => some (AV.i .i64 z)) e
  have he : (1996 : Int) + (r : Int) = ((1996 + r : Nat) : Int) := by omega
  simp (disch := first | omega | (simp only [List.length_cons, List.length_nil, true_and, and_true, nx_push, nx_put, nx_mark]; done) | (simp only [List.length_cons, List.length_nil, true_and, and_true, nx_push, nx_put, nx_mark]; omega)) only [go_sem, ↓reduceIte, Nat.reduceAdd, Nat.reduceMul, Nat.reduceSub, Int.reduceToNat, UInt8.reduceToNat, Nat.reduceLeDiff, Nat.reduceEqDiff, Nat.sub_zero, Int.add_zero, Int.zero_add, Nat.add_zero, Nat.zero_add, Nat.zero_mul, hb, he]
  obtain ⟨n, hn, hn1⟩ : ∃ n, 1996 + r = n ∧ n ≤ 2003 := ⟨_, rfl, by omega⟩
  rw [hn]
  refine atW 65 rfl (Bounds_loop (n := n) (notes := notes) hn1 n 0 _ [] (by omega) (by simp) rfl rfl rfl rfl (fun f' f0 f1 f5 => ?_))
  rw [List.nil_append] at f5
  have hp := bd_parse notes n hn1
  have hlen : (bdT notes n 0).length ≤ 1000000 := by
    have hl := bdT_len notes n 0
    unfold bdP at hl
    split at hl <;> omega
  simp (disch := first | omega | (simp only [List.length_cons, List.length_nil, true_and, and_true, nx_push, nx_put, nx_mark]; done) | (simp only [List.length_cons, List.length_nil, true_and, and_true, nx_push, nx_put, nx_mark]; omega)) only [go_sem, ↓reduceIte, Nat.reduceAdd, Nat.reduceMul, Nat.reduceSub, Int.reduceToNat, UInt8.reduceToNat, Nat.reduceLeDiff, Nat.reduceEqDiff, Nat.sub_zero, Int.add_zero, Int.zero_add, Nat.add_zero, Nat.zero_add, Nat.zero_mul, f0, f1, f5]
  refine Parse_run (by omega) (hw.mark []) (fun v H2 x2 hv => ?_)
  have hE2 := (Ext.refl (H := H.mark []) (n := H.next) hw).trans x2 (Nat.le_refl _)
  have v1 := hv.one
  have l1 := hv.len
  have n2 := x2.next
  simp only [nx_mark] at n2
  by_cases h2 : n ≤ 2000
  · rw [if_pos h2] at hp
    obtain ⟨p1, p2⟩ := hp
    rw [p2] at l1
    have l2 : lenVS v = some (.i .i64 n) := l1
    simp (disch := first | omega | (simp only [List.length_cons, List.length_nil, true_and, and_true, nx_push, nx_put, nx_mark]; done) | (simp only [List.length_cons, List.length_nil, true_and, and_true, nx_push, nx_put, nx_mark]; omega)) only [go_sem, ↓reduceIte, Nat.reduceAdd, Nat.reduceMul, Nat.reduceSub, Int.reduceToNat, UInt8.reduceToNat, Nat.reduceLeDiff, Nat.reduceEqDiff, Nat.sub_zero, Int.add_zero, Int.zero_add, Nat.add_zero, Nat.zero_add, Nat.zero_mul, v1, p1, l2, f0, f1]
    refine awake_run x2.wf (fun H4 x4 => ?_)
    have hE4 := hE2.trans x4 (by omega)
    have hm4 : H4.marks = [] := hE4.marks
    simp (disch := first | omega | (simp only [List.length_cons, List.length_nil, true_and, and_true, nx_push, nx_put, nx_mark]; done) | (simp only [List.length_cons, List.length_nil, true_and, and_true, nx_push, nx_put, nx_mark]; omega)) only [go_sem, ↓reduceIte, Nat.reduceAdd, Nat.reduceMul, Nat.reduceSub, Int.reduceToNat, UInt8.reduceToNat, Nat.reduceLeDiff, Nat.reduceEqDiff, Nat.sub_zero, Int.add_zero, Int.zero_add, Nat.add_zero, Nat.zero_add, Nat.zero_mul, hm4]
    exact h _ (Ext.mark hE4)
  · rw [if_neg h2] at hp
    have p0 : (parseF (bdT notes n 0)).1 = [] := by rw [hp]
    have p1 : (parseF (bdT notes n 0)).2.1 = bdP notes 2000 := by rw [hp]
    have p2 : (parseF (bdT notes n 0)).2.2 = 8 := by rw [hp]
    rw [p0] at l1
    have l2 : lenVS v = some (.i .i64 0) := l1
    have b1 : bdP true 2000 = 18000 := rfl
    have b2 : bdP false 2000 = 14000 := rfl
    cases notes
    all_goals
      simp (disch := first | omega | (simp only [List.length_cons, List.length_nil, true_and, and_true, nx_push, nx_put, nx_mark]; done) | (simp only [List.length_cons, List.length_nil, true_and, and_true, nx_push, nx_put, nx_mark]; omega)) only [go_sem, ↓reduceIte, Nat.reduceAdd, Nat.reduceMul, Nat.reduceSub, Int.reduceToNat, UInt8.reduceToNat, Nat.reduceLeDiff, Nat.reduceEqDiff, Nat.sub_zero, Int.add_zero, Int.zero_add, Nat.add_zero, Nat.zero_add, Nat.zero_mul, v1, p1, p2, l2, f0, f1, b1, b2]
      refine awake_run x2.wf (fun H4 x4 => ?_)
      have hE4 := hE2.trans x4 (by omega)
      have hm4 : H4.marks = [] := hE4.marks
      simp (disch := first | omega | (simp only [List.length_cons, List.length_nil, true_and, and_true, nx_push, nx_put, nx_mark]; done) | (simp only [List.length_cons, List.length_nil, true_and, and_true, nx_push, nx_put, nx_mark]; omega)) only [go_sem, ↓reduceIte, Nat.reduceAdd, Nat.reduceMul, Nat.reduceSub, Int.reduceToNat, UInt8.reduceToNat, Nat.reduceLeDiff, Nat.reduceEqDiff, Nat.sub_zero, Int.add_zero, Int.zero_add, Nat.add_zero, Nat.zero_add, Nat.zero_mul, hm4]
      exact h _ (Ext.mark hE4)
end Go.Fw.Ro
end
section
/- The law RoleBounds (entaillaw13) answers true at every input, without a panic, and its arguments read as they did; there are no conditions beyond those of the given card. -/
namespace Go.Proofs.YtpcioegnchiheaaDoor
open Go Go.Fw Go.ChangeShapes Go.WideShapes Go.ChangeAt Go.RowKit
theorem bounds_walk (a : Int) (b : Bool) (W : World) : Calls Tryd.prog 4 #[.int .i64 a, .bool b] W fun e W' => e = .returned (.bool true) ∧ Below W.heap.size W W' := by
  refine (close0 (S := Ro.S) (f := 4) (args := [.i .i64 a, .b b]) (us := #[.int .i64 a, .bool b]) (w := W) (K := fun v _ => v = .b true) draws_ok (fun _ _ => Ro.X_ok) Ro.F_ok rfl (Ro.Bounds_run ?_ fun _ _ => rfl) ?_).mono ?_
  · exact wf_mem0 _
  · exact ⟨.int .i64 a, [.bool b], rfl, rfl, .bool b, [], rfl, rfl, rfl⟩
  · rintro e W' ⟨c, μ', v, H', rfl, hv, rfl, hb⟩
    simp only [VR] at hv
    subst hv
    exact ⟨rfl, hb⟩
abbrev laid1 := Rows.roleBoundsRow.laid
set_option maxRecDepth 100000 in
theorem bounds_lifted (os : Os) (started : os.Started) (H : Type) (enc : TypeId × Value → H) :
    ReturnsInHanded {} Tryd.checked os 4 .any (fun w args => (Rows.roleBoundsSpec.pre enc Tryd.prog Tryd.f4 [] false w args ∧ laidMetH Tryd.prog laid1 w) ∧ sizedMet enc Tryd.prog Tryd.f4 (OpenSpec.ofChange Rows.roleBoundsSpec) false w args)
      (Rows.roleBoundsSpec.post enc Tryd.prog Tryd.f4 false true false false) := by
  refine returnsInHanded_of_change_and (C := Tryd.checked) (X := fun w _ => laidMetH Tryd.prog laid1 w) (fun _ _ _ hh h => h.of_heap hh) own started (by kernel_rfl) Tryd.func4
    (ChangeSpec.witness_shaped (enc := enc) (C := Tryd.checked) (os := os) (X := fun w _ => laidMetH Tryd.prog laid1 w) false (World.laidAll Tryd.prog os laid1) #[.int .i64 0, .bool false] 8 (World.laidAll_os _ _ _)
      (World.shaped_of_ZipB (by kernel_rfl) (by kernel_rfl)) (by kernel_rfl) (by kernel_rfl) (by kernel_rfl)
      (by rw [MakeChecks.laidMetH_plain _ _ _ (by kernel_rfl)]; exact laidMet_laidAll _ (by kernel_rfl) (by kernel_rfl))) ?_
  intro W base args ds gs before hval0 hW _ _ _ _
  have hval : ∀ (j : Nat) t v, Tryd.f4.params[j]? = some t → args[j]? = some v → Value.okWide Tryd.prog W .any base t v := hval0
  have hW' := hW
  obtain ⟨p, q, hA0, hV, rfl, _, _⟩ := hW
  have hA : DataW.TrodAll enc Tryd.prog W 0 (fun _ => true) true Tryd.f4.params.toList args.toList ds p := hA0
  rw [Tryd.params4] at hA hval
  obtain ⟨v0, v1, d0, d1, p0, p1, rfl, rfl, rfl, h0, h1⟩ := trodAll_two hA
  obtain ⟨x, rfl, rfl, rfl, wx⟩ := open_int Tryd.underlying3 (hval 0 3 v0 rfl rfl) h0
  obtain ⟨y, rfl, rfl, rfl⟩ := open_bool Tryd.underlying4 (hval 1 4 v1 rfl rfl) h1
  refine (bounds_walk x y W).mono fun e W' ⟨he, hw⟩ => ?_
  subst he
  exact ⟨_, rfl, post_true laidOut (f := Tryd.f4) (tb := 4) (by kernel_rfl) rfl Tryd.underlying4 rfl (fun d hd => by
    rw [Tryd.params4] at hd
    match d, hd with
    | [d, e], _ => rfl) hW' hw⟩
theorem bounds_holds : Rows.RoleBoundsSaid :=
  OpenClaim.holds_of_wide 4 Tryd.f4 rfl rfl rfl rfl rfl rfl rfl ⟨rfl, rfl, rfl, rfl, rfl⟩ rfl rfl rfl rfl rfl (by kernel_rfl) Tryd.func4 (by kernel_rfl)
    (of_decide_eq_true (by kernel_rfl)) (by unfold Func.isWrapper; first | (rw [if_pos (by decide +kernel)]; kernel_rfl) | (rw [if_neg (by decide +kernel)]; exact ⟨rfl, rfl⟩))
    (fun os started H enc _ => bounds_lifted os started H enc)
theorem roleBounds_card : Rows.RoleBoundsCardSaid :=
  Claim7.holds_tied_plain_at .later [] [.data, .data, .data, .data, .sentinel, .sentinel, .pinned] true (true, "0ce3dd3f10d0f5c8a6b54770681b387ecdc1e92a535efb9f9cf58ddd55e28cb3") true bounds_holds (fun _ h => by cases h) (by kernel_rfl) (fun _ h => by cases h) roleBounds_row_tie rfl ⟨rfl, rfl⟩ (by kernel_rfl) rfl
    (fun f fn hf hfn => by
      obtain rfl : f = 4 := Option.some.inj ((show Tryd.prog.funcNamed "entail/entaillaw13.RoleBounds" = some 4 by kernel_rfl).symm.trans hf) |>.symm
      obtain rfl : fn = Tryd.f4 := (Option.some.inj (Tryd.func4.symm.trans hfn)).symm
      exact ⟨by kernel_rfl, fun j t ht => by
        rw [Tryd.params4] at ht
        have hm : t ∈ [3, 4] := by simpa using Array.mem_of_getElem? ht
        have hall : ([3, 4].all fun u => !Tryd.prog.wantsStandIn u) = true := by kernel_rfl
        exact (show Tryd.prog.wantsStandIn t = false by simpa using List.all_eq_true.1 hall t hm)⟩)
    (by kernel_rfl)
#print axioms roleBounds_card
end Go.Proofs.YtpcioegnchiheaaDoor
end
