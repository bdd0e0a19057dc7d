/- Lemmas for the law's proof, part 5. -/
import Derived.Test.YtpcioegnchiheaaGreatDoorT04
import Derived.Test.YtpcioegnchiheaaGreatDoorT03
set_option linter.unusedSimpArgs false
set_option linter.unusedVariables false
set_option linter.constructorNameAsVariable false
set_option linter.unnecessarySimpa false
section
/- Texts: Go's functions on them. -/
namespace Go.Fw.Ro
open Go Go.Fw Go.Fw.Sys
set_option maxRecDepth 100000
variable {H : Mem} {K : AV → Mem → Prop} {s t : List UInt8} {c : Int}
@[go_sem] theorem sl_IndexByte (h0 : 0 ≤ c) (h1 : c < 256) : @R S (.f n_internal_stringslite_IndexByte) [.s s, .i .u8 c] H ⟨K⟩ ↔ K (.i .i64 (ixOf s c.toNat)) H := by
  refine run_iff fun K h => ?_
  refine run_fn2 rfl rfl ?_
  unfold bd_internal_stringslite_IndexByte
  simp (disch := first | omega | (simp only [List.length_cons, List.length_nil, true_and, and_true, nx_push, nx_put, nx_mark]; try omega)) only [go_sem, ↓reduceIte, Nat.reduceAdd, Nat.reduceMul, Nat.reduceSub, Int.reduceToNat, UInt8.reduceToNat, Nat.reduceLeDiff, Nat.reduceEqDiff, Nat.sub_zero, Int.add_zero, Int.zero_add, Nat.add_zero, Nat.zero_add, Nat.zero_mul]
  exact h
@[go_sem] theorem st_IndexByte (h0 : 0 ≤ c) (h1 : c < 256) : @R S (.f n_strings_IndexByte) [.s s, .i .u8 c] H ⟨K⟩ ↔ K (.i .i64 (ixOf s c.toNat)) H := by
  refine run_iff fun K h => ?_
  refine run_fn2 rfl rfl ?_
  unfold bd_strings_IndexByte
  simp (disch := first | omega | (simp only [List.length_cons, List.length_nil, true_and, and_true, nx_push, nx_put, nx_mark]; try omega)) only [go_sem, ↓reduceIte, Nat.reduceAdd, Nat.reduceMul, Nat.reduceSub, Int.reduceToNat, UInt8.reduceToNat, Nat.reduceLeDiff, Nat.reduceEqDiff, Nat.sub_zero, Int.add_zero, Int.zero_add, Nat.add_zero, Nat.zero_add, Nat.zero_mul]
  exact h
@[go_sem] theorem sl_Index1 {b : UInt8} : @R S (.f n_internal_stringslite_Index) [.s s, .s [b]] H ⟨K⟩ ↔ K (.i .i64 (ixOf s b.toNat)) H := by
  have hb := b.toNat_lt
  refine run_iff fun K h => ?_
  refine run_fn2 rfl rfl ?_
  unfold bd_internal_stringslite_Index
  simp (disch := first | omega | (simp only [List.length_cons, List.length_nil, true_and, and_true, nx_push, nx_put, nx_mark]; try omega)) only [go_sem, ↓reduceIte, Nat.reduceAdd, Nat.reduceMul, Nat.reduceSub, Int.reduceToNat, UInt8.reduceToNat, Nat.reduceLeDiff, Nat.reduceEqDiff, Nat.sub_zero, Int.add_zero, Int.zero_add, Nat.add_zero, Nat.zero_add, Nat.zero_mul]
  · by_cases h2 : [b] = s
    · subst h2
      repeat' (first | (simp (disch := first | omega | (simp only [List.length_cons, List.length_nil, true_and, and_true, nx_push, nx_put, nx_mark]; try omega)) only [go_sem, ↓reduceIte, Nat.reduceAdd, Nat.reduceMul, Nat.reduceSub, Int.reduceToNat, UInt8.reduceToNat, Nat.reduceLeDiff, Nat.reduceEqDiff, Nat.sub_zero, Int.add_zero, Int.zero_add, Nat.add_zero, Nat.zero_add, Nat.zero_mul, *]) | with_reducible refine grd_dec (fun _ => ?_) (fun _ => ?_) | with_reducible refine cnd_dec (fun _ => ?_) (fun _ => ?_) | with_reducible refine grd_bool (fun _ => ?_) (fun _ => ?_) | with_reducible refine cnd_bool (fun _ => ?_) (fun _ => ?_))
      refine kI ?_ h
      simp [ixOf, idxF]
    · repeat' (first | (simp (disch := first | omega | (simp only [List.length_cons, List.length_nil, true_and, and_true, nx_push, nx_put, nx_mark]; try omega)) only [go_sem, ↓reduceIte, Nat.reduceAdd, Nat.reduceMul, Nat.reduceSub, Int.reduceToNat, UInt8.reduceToNat, Nat.reduceLeDiff, Nat.reduceEqDiff, Nat.sub_zero, Int.add_zero, Int.zero_add, Nat.add_zero, Nat.zero_add, Nat.zero_mul, *]) | with_reducible refine grd_dec (fun _ => ?_) (fun _ => ?_) | with_reducible refine cnd_dec (fun _ => ?_) (fun _ => ?_) | with_reducible refine grd_bool (fun _ => ?_) (fun _ => ?_) | with_reducible refine cnd_bool (fun _ => ?_) (fun _ => ?_))
      all_goals exact h
@[go_sem] theorem st_Index1 {b : UInt8} : @R S (.f n_strings_Index) [.s s, .s [b]] H ⟨K⟩ ↔ K (.i .i64 (ixOf s b.toNat)) H := by
  refine run_iff fun K h => ?_
  refine run_fn2 rfl rfl ?_
  unfold bd_strings_Index
  simp (disch := first | omega | (simp only [List.length_cons, List.length_nil, true_and, and_true, nx_push, nx_put, nx_mark]; try omega)) only [go_sem, ↓reduceIte, Nat.reduceAdd, Nat.reduceMul, Nat.reduceSub, Int.reduceToNat, UInt8.reduceToNat, Nat.reduceLeDiff, Nat.reduceEqDiff, Nat.sub_zero, Int.add_zero, Int.zero_add, Nat.add_zero, Nat.zero_add, Nat.zero_mul]
  exact h
@[go_sem] theorem st_Contains1 {b : UInt8} : @R S (.f n_strings_Contains) [.s s, .s [b]] H ⟨K⟩ ↔ K (.b (decide (0 ≤ ixOf s b.toNat))) H := by
  refine run_iff fun K h => ?_
  refine run_fn2 rfl rfl ?_
  unfold bd_strings_Contains
  simp (disch := first | omega | (simp only [List.length_cons, List.length_nil, true_and, and_true, nx_push, nx_put, nx_mark]; try omega)) only [go_sem, ↓reduceIte, Nat.reduceAdd, Nat.reduceMul, Nat.reduceSub, Int.reduceToNat, UInt8.reduceToNat, Nat.reduceLeDiff, Nat.reduceEqDiff, Nat.sub_zero, Int.add_zero, Int.zero_add, Nat.add_zero, Nat.zero_add, Nat.zero_mul]
  exact h
@[go_sem] theorem st_Count1 {b : UInt8} : @R S (.f n_strings_Count) [.s s, .s [b]] H ⟨K⟩ ↔ K (.i .i64 (cntOf s b.toNat)) H := by
  have hb := b.toNat_lt
  refine run_iff fun K h => ?_
  refine run_fn2 rfl rfl ?_
  unfold bd_strings_Count
  repeat' (first | (simp (disch := first | omega | (simp only [List.length_cons, List.length_nil, true_and, and_true, nx_push, nx_put, nx_mark]; try omega)) only [go_sem, ↓reduceIte, Nat.reduceAdd, Nat.reduceMul, Nat.reduceSub, Int.reduceToNat, UInt8.reduceToNat, Nat.reduceLeDiff, Nat.reduceEqDiff, Nat.sub_zero, Int.add_zero, Int.zero_add, Nat.add_zero, Nat.zero_add, Nat.zero_mul, *]) | with_reducible refine grd_dec (fun _ => ?_) (fun _ => ?_) | with_reducible refine cnd_dec (fun _ => ?_) (fun _ => ?_) | with_reducible refine grd_bool (fun _ => ?_) (fun _ => ?_) | with_reducible refine cnd_bool (fun _ => ?_) (fun _ => ?_))
  all_goals first | omega | exact h
/-- Does it end so? -/
def endsIn (s t : List UInt8) : Bool := decide (t.length ≤ s.length) && decide (s.drop (s.length - t.length) = t)
@[go_sem] theorem sl_HasSuffix (hs : s.length ≤ 9223372036854775807) : @R S (.f n_internal_stringslite_HasSuffix) [.s s, .s t] H ⟨K⟩ ↔ K (.b (endsIn s t)) H := by
  refine run_iff fun K h => ?_
  refine run_fn2 rfl rfl ?_
  unfold bd_internal_stringslite_HasSuffix
  simp (disch := first | omega | (simp only [List.length_cons, List.length_nil, true_and, and_true, nx_push, nx_put, nx_mark]; try omega)) only [go_sem, ↓reduceIte, Nat.reduceAdd, Nat.reduceMul, Nat.reduceSub, Int.reduceToNat, UInt8.reduceToNat, Nat.reduceLeDiff, Nat.reduceEqDiff, Nat.sub_zero, Int.add_zero, Int.zero_add, Nat.add_zero, Nat.zero_add, Nat.zero_mul]
  refine grd_dec (fun h1 => ?_) (fun h1 => ?_)
  · simp (disch := first | omega | (simp only [List.length_cons, List.length_nil, true_and, and_true, nx_push, nx_put, nx_mark]; try omega)) only [go_sem, ↓reduceIte, Nat.reduceAdd, Nat.reduceMul, Nat.reduceSub, Int.reduceToNat, UInt8.reduceToNat, Nat.reduceLeDiff, Nat.reduceEqDiff, Nat.sub_zero, Int.add_zero, Int.zero_add, Nat.add_zero, Nat.zero_add, Nat.zero_mul, h1]
    refine kb ?_ h
    rw [endsIn, decide_eq_true (by omega : t.length ≤ s.length), Bool.true_and, show ((s.length : Int) - t.length).toNat = s.length - t.length by omega, List.take_of_length_le (by simp)]
  · simp (disch := first | omega | (simp only [List.length_cons, List.length_nil, true_and, and_true, nx_push, nx_put, nx_mark]; try omega)) only [go_sem, ↓reduceIte, Nat.reduceAdd, Nat.reduceMul, Nat.reduceSub, Int.reduceToNat, UInt8.reduceToNat, Nat.reduceLeDiff, Nat.reduceEqDiff, Nat.sub_zero, Int.add_zero, Int.zero_add, Nat.add_zero, Nat.zero_add, Nat.zero_mul, h1]
    refine kb ?_ h
    simp [endsIn]; omega
def trimEnd (s t : List UInt8) : List UInt8 := if endsIn s t = true then s.take (s.length - t.length) else s
@[go_sem] theorem sl_TrimSuffix (hs : s.length ≤ 9223372036854775807) : @R S (.f n_internal_stringslite_TrimSuffix) [.s s, .s t] H ⟨K⟩ ↔ K (.s (trimEnd s t)) H := by
  refine run_iff fun K h => ?_
  refine run_fn2 rfl rfl ?_
  unfold bd_internal_stringslite_TrimSuffix
  simp (disch := first | omega | (simp only [List.length_cons, List.length_nil, true_and, and_true, nx_push, nx_put, nx_mark]; try omega)) only [go_sem, ↓reduceIte, Nat.reduceAdd, Nat.reduceMul, Nat.reduceSub, Int.reduceToNat, UInt8.reduceToNat, Nat.reduceLeDiff, Nat.reduceEqDiff, Nat.sub_zero, Int.add_zero, Int.zero_add, Nat.add_zero, Nat.zero_add, Nat.zero_mul]
  cases h1 : endsIn s t with
  | true =>
    have hle : t.length ≤ s.length := by simp [endsIn] at h1; exact h1.1
    simp (disch := first | omega | (simp only [List.length_cons, List.length_nil, true_and, and_true, nx_push, nx_put, nx_mark]; try omega)) only [go_sem, ↓reduceIte, Nat.reduceAdd, Nat.reduceMul, Nat.reduceSub, Int.reduceToNat, UInt8.reduceToNat, Nat.reduceLeDiff, Nat.reduceEqDiff, Nat.sub_zero, Int.add_zero, Int.zero_add, Nat.add_zero, Nat.zero_add, Nat.zero_mul, h1]
    refine kS ?_ h
    rw [trimEnd, if_pos h1]; simp
  | false =>
    simp (disch := first | omega | (simp only [List.length_cons, List.length_nil, true_and, and_true, nx_push, nx_put, nx_mark]; try omega)) only [go_sem, ↓reduceIte, Nat.reduceAdd, Nat.reduceMul, Nat.reduceSub, Int.reduceToNat, UInt8.reduceToNat, Nat.reduceLeDiff, Nat.reduceEqDiff, Nat.sub_zero, Int.add_zero, Int.zero_add, Nat.add_zero, Nat.zero_add, Nat.zero_mul, h1]
    refine kS ?_ h
    rw [trimEnd, h1]; rfl
@[go_sem] theorem st_TrimSuffix (hs : s.length ≤ 9223372036854775807) : @R S (.f n_strings_TrimSuffix) [.s s, .s t] H ⟨K⟩ ↔ K (.s (trimEnd s t)) H := by
  refine run_iff fun K h => ?_
  refine run_fn2 rfl rfl ?_
  unfold bd_strings_TrimSuffix
  simp (disch := first | omega | (simp only [List.length_cons, List.length_nil, true_and, and_true, nx_push, nx_put, nx_mark]; try omega)) only [go_sem, ↓reduceIte, Nat.reduceAdd, Nat.reduceMul, Nat.reduceSub, Int.reduceToNat, UInt8.reduceToNat, Nat.reduceLeDiff, Nat.reduceEqDiff, Nat.sub_zero, Int.add_zero, Int.zero_add, Nat.add_zero, Nat.zero_add, Nat.zero_mul]
  exact h
@[go_sem] theorem li_bare (hs : s.length ≤ 9223372036854775807) : @R S (.f n_line_bare) [.s s] H ⟨K⟩ ↔ K (.s (trimEnd s [13])) H := by
  refine run_iff fun K h => ?_
  refine run_fn2 rfl rfl ?_
  unfold bd_line_bare
  simp (disch := first | omega | (simp only [List.length_cons, List.length_nil, true_and, and_true, nx_push, nx_put, nx_mark]; try omega)) only [go_sem, ↓reduceIte, Nat.reduceAdd, Nat.reduceMul, Nat.reduceSub, Int.reduceToNat, UInt8.reduceToNat, Nat.reduceLeDiff, Nat.reduceEqDiff, Nat.sub_zero, Int.add_zero, Int.zero_add, Nat.add_zero, Nat.zero_add, Nat.zero_mul]
  exact h
/-- May a byte not stand in a line? -/
def badB (c : UInt8) : Bool := !decide (c.toNat = 9) && (decide (c.toNat < 32) || decide (126 < c.toNat))
/-- Where the first such byte stands; below 0: nowhere. -/
def badAt : List UInt8 → Nat → Int
  | [], _ => -1
  | c :: r, k => if badB c = true then k else badAt r (k + 1)
theorem wrong_loop {Q : Ex → Tr → Mem → Prop} (hs : s.length ≤ 1000000) : ∀ (r : List UInt8) (i : Nat) (f : Nat → AV), i + r.length = s.length → s.drop i = r → f 0 = .s s → f 7 = .i .i64 i → f 6 = .i .i64 s.length →
    (∀ f', f' 2 = .i .i64 (badAt r i) → badAt r i ≠ -1 → Q .rt (trO 25 f') H) → (∀ f', badAt r i = -1 → Q (.ex 0) (trO 25 f') H) → @W S false (.loop lp_line_wrong_0) (trO 25 f) H ⟨Q⟩ := by
  intro r
  induction r with
  | nil =>
    intro i f h1 h2 e0 e7 e6 k1 k2
    rw [w_loop]
    unfold lp_line_wrong_0
    simp at h1
    simp (disch := first | omega | (simp only [List.length_cons, List.length_nil, true_and, and_true, nx_push, nx_put, nx_mark]; try omega)) only [go_sem, ↓reduceIte, Nat.reduceAdd, Nat.reduceMul, Nat.reduceSub, Int.reduceToNat, UInt8.reduceToNat, Nat.reduceLeDiff, Nat.reduceEqDiff, Nat.sub_zero, Int.add_zero, Int.zero_add, Nat.add_zero, Nat.zero_add, Nat.zero_mul, e0, e7, e6]
    exact atQ 25 rfl (k2 _ rfl)
  | cons c r ih =>
    intro i f h1 h2 e0 e7 e6 k1 k2
    rw [w_loop]
    unfold lp_line_wrong_0
    simp (disch := first | omega | (simp only [List.length_cons, List.length_nil, true_and, and_true, nx_push, nx_put, nx_mark]; try omega)) only [go_sem, ↓reduceIte, Nat.reduceAdd, Nat.reduceMul, Nat.reduceSub, Int.reduceToNat, UInt8.reduceToNat, Nat.reduceLeDiff, Nat.reduceEqDiff, Nat.sub_zero, Int.add_zero, Int.zero_add, Nat.add_zero, Nat.zero_add, Nat.zero_mul, e0, e7, e6]
    simp at h1
    have hc : s[i]? = some c := by rw [← List.head?_drop, h2]; rfl
    simp (disch := first | omega | (simp only [List.length_cons, List.length_nil, true_and, and_true, nx_push, nx_put, nx_mark]; try omega)) only [go_sem, ↓reduceIte, Nat.reduceAdd, Nat.reduceMul, Nat.reduceSub, Int.reduceToNat, UInt8.reduceToNat, Nat.reduceLeDiff, Nat.reduceEqDiff, Nat.sub_zero, Int.add_zero, Int.zero_add, Nat.add_zero, Nat.zero_add, Nat.zero_mul, e0, e7, e6, hc]
    have next : badB c = false → ∀ f' : Nat → AV, f' 0 = .s s → f' 7 = .i .i64 (i + 1 : Nat) → f' 6 = .i .i64 s.length → @W S false (.loop lp_line_wrong_0) (trO 25 f') H ⟨Q⟩ := fun hb f' a b d =>
      ih (i + 1) f' (by omega) (by rw [← List.drop_drop, h2]; rfl) a b d (fun f' a b => k1 f' (by rw [badAt, hb]; exact a) (by rw [badAt, hb]; exact b)) (fun f' a => k2 f' (by rw [badAt, hb]; exact a))
    have stop : badB c = true → ∀ f' : Nat → AV, f' 2 = .i .i64 i → Q .rt (trO 25 f') H := fun hb f' a => k1 f' (by rw [badAt, if_pos hb]; exact a) (by rw [badAt, if_pos hb]; omega)
    by_cases a1 : (c.toNat : Int) = 9
    · have hb : badB c = false := by simp [badB]; omega
      repeat' (first | (simp (disch := first | omega | (simp only [List.length_cons, List.length_nil, true_and, and_true, nx_push, nx_put, nx_mark]; try omega)) only [go_sem, ↓reduceIte, Nat.reduceAdd, Nat.reduceMul, Nat.reduceSub, Int.reduceToNat, UInt8.reduceToNat, Nat.reduceLeDiff, Nat.reduceEqDiff, Nat.sub_zero, Int.add_zero, Int.zero_add, Nat.add_zero, Nat.zero_add, Nat.zero_mul, *]) | with_reducible refine grd_dec (fun _ => ?_) (fun _ => ?_) | with_reducible refine cnd_dec (fun _ => ?_) (fun _ => ?_) | with_reducible refine grd_bool (fun _ => ?_) (fun _ => ?_) | with_reducible refine cnd_bool (fun _ => ?_) (fun _ => ?_))
      refine atW 25 rfl (next hb _ rfl rfl rfl)
    · by_cases a2 : (c.toNat : Int) < 32
      · have hb : badB c = true := by simp [badB]; omega
        repeat' (first | (simp (disch := first | omega | (simp only [List.length_cons, List.length_nil, true_and, and_true, nx_push, nx_put, nx_mark]; try omega)) only [go_sem, ↓reduceIte, Nat.reduceAdd, Nat.reduceMul, Nat.reduceSub, Int.reduceToNat, UInt8.reduceToNat, Nat.reduceLeDiff, Nat.reduceEqDiff, Nat.sub_zero, Int.add_zero, Int.zero_add, Nat.add_zero, Nat.zero_add, Nat.zero_mul, *]) | with_reducible refine grd_dec (fun _ => ?_) (fun _ => ?_) | with_reducible refine cnd_dec (fun _ => ?_) (fun _ => ?_) | with_reducible refine grd_bool (fun _ => ?_) (fun _ => ?_) | with_reducible refine cnd_bool (fun _ => ?_) (fun _ => ?_))
        exact atQ 25 rfl (stop hb _ rfl)
      · by_cases a3 : (126 : Int) < c.toNat
        · have hb : badB c = true := by simp [badB]; omega
          repeat' (first | (simp (disch := first | omega | (simp only [List.length_cons, List.length_nil, true_and, and_true, nx_push, nx_put, nx_mark]; try omega)) only [go_sem, ↓reduceIte, Nat.reduceAdd, Nat.reduceMul, Nat.reduceSub, Int.reduceToNat, UInt8.reduceToNat, Nat.reduceLeDiff, Nat.reduceEqDiff, Nat.sub_zero, Int.add_zero, Int.zero_add, Nat.add_zero, Nat.zero_add, Nat.zero_mul, *]) | with_reducible refine grd_dec (fun _ => ?_) (fun _ => ?_) | with_reducible refine cnd_dec (fun _ => ?_) (fun _ => ?_) | with_reducible refine grd_bool (fun _ => ?_) (fun _ => ?_) | with_reducible refine cnd_bool (fun _ => ?_) (fun _ => ?_))
          exact atQ 25 rfl (stop hb _ rfl)
        · have hb : badB c = false := by simp [badB]; omega
          repeat' (first | (simp (disch := first | omega | (simp only [List.length_cons, List.length_nil, true_and, and_true, nx_push, nx_put, nx_mark]; try omega)) only [go_sem, ↓reduceIte, Nat.reduceAdd, Nat.reduceMul, Nat.reduceSub, Int.reduceToNat, UInt8.reduceToNat, Nat.reduceLeDiff, Nat.reduceEqDiff, Nat.sub_zero, Int.add_zero, Int.zero_add, Nat.add_zero, Nat.zero_add, Nat.zero_mul, *]) | with_reducible refine grd_dec (fun _ => ?_) (fun _ => ?_) | with_reducible refine cnd_dec (fun _ => ?_) (fun _ => ?_) | with_reducible refine grd_bool (fun _ => ?_) (fun _ => ?_) | with_reducible refine cnd_bool (fun _ => ?_) (fun _ => ?_))
          refine atW 25 rfl (next hb _ rfl rfl rfl)
@[go_sem] theorem li_wrong (hs : s.length ≤ 1000000) : @R S (.f n_line_wrong) [.s s] H ⟨K⟩ ↔ K (.i .i64 (badAt s 0)) H := by
  refine run_iff fun K h => ?_
  refine run_fn2 rfl rfl ?_
  unfold bd_line_wrong
  simp (disch := first | omega | (simp only [List.length_cons, List.length_nil, true_and, and_true, nx_push, nx_put, nx_mark]; try omega)) only [go_sem, ↓reduceIte, Nat.reduceAdd, Nat.reduceMul, Nat.reduceSub, Int.reduceToNat, UInt8.reduceToNat, Nat.reduceLeDiff, Nat.reduceEqDiff, Nat.sub_zero, Int.add_zero, Int.zero_add, Nat.add_zero, Nat.zero_add, Nat.zero_mul]
  refine atW 25 rfl (wrong_loop hs s 0 _ (by omega) rfl rfl rfl rfl (fun f' a b => ?_) (fun f' a => ?_))
  · simp (disch := first | omega | (simp only [List.length_cons, List.length_nil, true_and, and_true, nx_push, nx_put, nx_mark]; try omega)) only [go_sem, ↓reduceIte, Nat.reduceAdd, Nat.reduceMul, Nat.reduceSub, Int.reduceToNat, UInt8.reduceToNat, Nat.reduceLeDiff, Nat.reduceEqDiff, Nat.sub_zero, Int.add_zero, Int.zero_add, Nat.add_zero, Nat.zero_add, Nat.zero_mul, a]
    exact h
  · simp (disch := first | omega | (simp only [List.length_cons, List.length_nil, true_and, and_true, nx_push, nx_put, nx_mark]; try omega)) only [go_sem, ↓reduceIte, Nat.reduceAdd, Nat.reduceMul, Nat.reduceSub, Int.reduceToNat, UInt8.reduceToNat, Nat.reduceLeDiff, Nat.reduceEqDiff, Nat.sub_zero, Int.add_zero, Int.zero_add, Nat.add_zero, Nat.zero_add, Nat.zero_mul]
    exact kI a.symm h
end Go.Fw.Ro
end
section
/- Names; a line's words. -/
namespace Go.Fw.Ro
open Go Go.Fw Go.Fw.Sys
set_option maxRecDepth 100000
variable {H : Mem} {K : AV → Mem → Prop}
def isFirst (c : Int) : Bool := (decide (97 ≤ c) && decide (c ≤ 122)) || (decide (48 ≤ c) && decide (c ≤ 57))
@[go_sem] theorem first_run {c : Int} : @R S (.f n_atom_first) [.i .u8 c] H ⟨K⟩ ↔ K (.b (isFirst c)) H := by
  refine run_iff fun K h => ?_
  refine run_fn2 rfl rfl ?_
  unfold bd_atom_first
  repeat' (first | (simp (disch := first | omega | (simp only [List.length_cons, List.length_nil, true_and, and_true, nx_push, nx_put, nx_mark]; try omega)) only [go_sem, ↓reduceIte, Nat.reduceAdd, Nat.reduceMul, Nat.reduceSub, Int.reduceToNat, UInt8.reduceToNat, Nat.reduceLeDiff, Nat.reduceEqDiff, Nat.sub_zero, Int.add_zero, Int.zero_add, Nat.add_zero, Nat.zero_add, Nat.zero_mul, *]) | with_reducible refine grd_dec (fun _ => ?_) (fun _ => ?_) | with_reducible refine cnd_dec (fun _ => ?_) (fun _ => ?_) | with_reducible refine grd_bool (fun _ => ?_) (fun _ => ?_) | with_reducible refine cnd_bool (fun _ => ?_) (fun _ => ?_))
  all_goals refine kb ?_ h
  all_goals first | (simp [isFirst, *]; done) | (simp [isFirst, *]; omega)
def isPlain (c : Int) : Bool := isFirst c || decide (c = 95) || decide (c = 45) || decide (c = 46)
@[go_sem] theorem plain_run {c : Int} : @R S (.f n_atom_plain) [.i .u8 c] H ⟨K⟩ ↔ K (.b (isPlain c)) H := by
  refine run_iff fun K h => ?_
  refine run_fn2 rfl rfl ?_
  unfold bd_atom_plain
  repeat' (first | (simp (disch := first | omega | (simp only [List.length_cons, List.length_nil, true_and, and_true, nx_push, nx_put, nx_mark]; try omega)) only [go_sem, ↓reduceIte, Nat.reduceAdd, Nat.reduceMul, Nat.reduceSub, Int.reduceToNat, UInt8.reduceToNat, Nat.reduceLeDiff, Nat.reduceEqDiff, Nat.sub_zero, Int.add_zero, Int.zero_add, Nat.add_zero, Nat.zero_add, Nat.zero_mul, *]) | with_reducible refine grd_dec (fun _ => ?_) (fun _ => ?_) | with_reducible refine cnd_dec (fun _ => ?_) (fun _ => ?_) | with_reducible refine grd_bool (fun _ => ?_) (fun _ => ?_) | with_reducible refine cnd_bool (fun _ => ?_) (fun _ => ?_))
  all_goals refine kb ?_ h
  all_goals first | (simp [isPlain, *]; done) | (simp [isPlain, *]; omega)
def isName (s : List UInt8) : Bool := (match s with | [] => false | c :: _ => isFirst c.toNat) && decide (s.length ≤ 30) && s.all fun c => isPlain c.toNat
theorem Name_loop {s : List UInt8} {Q : Ex → Tr → Mem → Prop} : ∀ (r : List UInt8) (i : Nat) (f : Nat → AV), i + r.length = s.length → s.drop i = r → s.length ≤ 30 → f 0 = .s s → f 19 = .i .i64 i → f 18 = .i .i64 s.length →
    (∀ f', f' 2 = .b false → r.all (fun c => isPlain c.toNat) = false → Q .rt (trO 28 f') H) → (∀ f', r.all (fun c => isPlain c.toNat) = true → Q (.ex 0) (trO 28 f') H) → @W S false (.loop lp_atom_Name_0) (trO 28 f) H ⟨Q⟩ := by
  intro r
  induction r with
  | nil =>
    intro i f h1 h2 h3 e0 e19 e18 k1 k2
    rw [w_loop]
    unfold lp_atom_Name_0
    simp at h1
    simp (disch := first | omega | (simp only [List.length_cons, List.length_nil, true_and, and_true, nx_push, nx_put, nx_mark]; try omega)) only [go_sem, ↓reduceIte, Nat.reduceAdd, Nat.reduceMul, Nat.reduceSub, Int.reduceToNat, UInt8.reduceToNat, Nat.reduceLeDiff, Nat.reduceEqDiff, Nat.sub_zero, Int.add_zero, Int.zero_add, Nat.add_zero, Nat.zero_add, Nat.zero_mul, e0, e19, e18, h1]
    exact atQ 28 rfl (k2 _ rfl)
  | cons c r ih =>
    intro i f h1 h2 h3 e0 e19 e18 k1 k2
    rw [w_loop]
    unfold lp_atom_Name_0
    simp (disch := first | omega | (simp only [List.length_cons, List.length_nil, true_and, and_true, nx_push, nx_put, nx_mark]; try omega)) only [go_sem, ↓reduceIte, Nat.reduceAdd, Nat.reduceMul, Nat.reduceSub, Int.reduceToNat, UInt8.reduceToNat, Nat.reduceLeDiff, Nat.reduceEqDiff, Nat.sub_zero, Int.add_zero, Int.zero_add, Nat.add_zero, Nat.zero_add, Nat.zero_mul, e0, e19, e18]
    simp at h1
    have hc : s[i]? = some c := by rw [← List.head?_drop, h2]; rfl
    simp (disch := first | omega | (simp only [List.length_cons, List.length_nil, true_and, and_true, nx_push, nx_put, nx_mark]; try omega)) only [go_sem, ↓reduceIte, Nat.reduceAdd, Nat.reduceMul, Nat.reduceSub, Int.reduceToNat, UInt8.reduceToNat, Nat.reduceLeDiff, Nat.reduceEqDiff, Nat.sub_zero, Int.add_zero, Int.zero_add, Nat.add_zero, Nat.zero_add, Nat.zero_mul, e0, e19, e18, hc]
    cases hp : isPlain c.toNat with
    | true =>
      simp (disch := first | omega | (simp only [List.length_cons, List.length_nil, true_and, and_true, nx_push, nx_put, nx_mark]; try omega)) only [go_sem, ↓reduceIte, Nat.reduceAdd, Nat.reduceMul, Nat.reduceSub, Int.reduceToNat, UInt8.reduceToNat, Nat.reduceLeDiff, Nat.reduceEqDiff, Nat.sub_zero, Int.add_zero, Int.zero_add, Nat.add_zero, Nat.zero_add, Nat.zero_mul]
      refine atW 28 rfl (ih (i + 1) _ (by omega) (by rw [← List.drop_drop, h2]; rfl) h3 rfl rfl rfl (fun f' a b => k1 f' a ?_) (fun f' a => k2 f' ?_))
      · rw [List.all_cons, hp]; exact b
      · rw [List.all_cons, hp]; exact a
    | false =>
      simp (disch := first | omega | (simp only [List.length_cons, List.length_nil, true_and, and_true, nx_push, nx_put, nx_mark]; try omega)) only [go_sem, ↓reduceIte, Nat.reduceAdd, Nat.reduceMul, Nat.reduceSub, Int.reduceToNat, UInt8.reduceToNat, Nat.reduceLeDiff, Nat.reduceEqDiff, Nat.sub_zero, Int.add_zero, Int.zero_add, Nat.add_zero, Nat.zero_add, Nat.zero_mul]
      exact atQ 28 rfl (k1 _ rfl (by rw [List.all_cons, hp]; rfl))
@[go_sem] theorem Name_run {s : List UInt8} : @R S (.f n_atom_Name) [.s s] H ⟨K⟩ ↔ K (.b (isName s)) H := by
  refine run_iff fun K h => ?_
  refine run_fn2 rfl rfl ?_
  unfold bd_atom_Name
  simp (disch := first | omega | (simp only [List.length_cons, List.length_nil, true_and, and_true, nx_push, nx_put, nx_mark]; try omega)) only [go_sem, ↓reduceIte, Nat.reduceAdd, Nat.reduceMul, Nat.reduceSub, Int.reduceToNat, UInt8.reduceToNat, Nat.reduceLeDiff, Nat.reduceEqDiff, Nat.sub_zero, Int.add_zero, Int.zero_add, Nat.add_zero, Nat.zero_add, Nat.zero_mul]
  refine grd_dec (fun h1 => ?_) (fun h1 => ?_)
  · simp (disch := first | omega | (simp only [List.length_cons, List.length_nil, true_and, and_true, nx_push, nx_put, nx_mark]; try omega)) only [go_sem, ↓reduceIte, Nat.reduceAdd, Nat.reduceMul, Nat.reduceSub, Int.reduceToNat, UInt8.reduceToNat, Nat.reduceLeDiff, Nat.reduceEqDiff, Nat.sub_zero, Int.add_zero, Int.zero_add, Nat.add_zero, Nat.zero_add, Nat.zero_mul, h1]
    rw [h1] at h; exact h
  · cases s with
    | nil => exact absurd rfl h1
    | cons c r =>
      simp (disch := first | omega | (simp only [List.length_cons, List.length_nil, true_and, and_true, nx_push, nx_put, nx_mark]; try omega)) only [go_sem, ↓reduceIte, Nat.reduceAdd, Nat.reduceMul, Nat.reduceSub, Int.reduceToNat, UInt8.reduceToNat, Nat.reduceLeDiff, Nat.reduceEqDiff, Nat.sub_zero, Int.add_zero, Int.zero_add, Nat.add_zero, Nat.zero_add, Nat.zero_mul, h1]
      refine grd_dec (fun h2 => ?_) (fun h2 => ?_)
      · simp (disch := first | omega | (simp only [List.length_cons, List.length_nil, true_and, and_true, nx_push, nx_put, nx_mark]; try omega)) only [go_sem, ↓reduceIte, Nat.reduceAdd, Nat.reduceMul, Nat.reduceSub, Int.reduceToNat, UInt8.reduceToNat, Nat.reduceLeDiff, Nat.reduceEqDiff, Nat.sub_zero, Int.add_zero, Int.zero_add, Nat.add_zero, Nat.zero_add, Nat.zero_mul, h1, h2]
        refine kb ?_ h
        simp [isName]; omega
      · cases h3 : isFirst c.toNat with
        | true =>
          simp (disch := first | omega | (simp only [List.length_cons, List.length_nil, true_and, and_true, nx_push, nx_put, nx_mark]; try omega)) only [go_sem, ↓reduceIte, Nat.reduceAdd, Nat.reduceMul, Nat.reduceSub, Int.reduceToNat, UInt8.reduceToNat, Nat.reduceLeDiff, Nat.reduceEqDiff, Nat.sub_zero, Int.add_zero, Int.zero_add, Nat.add_zero, Nat.zero_add, Nat.zero_mul, h1, h2, h3]
          refine atW 28 rfl (Name_loop (c :: r) 0 _ (by omega) rfl (by simp; omega) rfl rfl rfl (fun f' a b => ?_) (fun f' b => ?_))
          · simp (disch := first | omega | (simp only [List.length_cons, List.length_nil, true_and, and_true, nx_push, nx_put, nx_mark]; try omega)) only [go_sem, ↓reduceIte, Nat.reduceAdd, Nat.reduceMul, Nat.reduceSub, Int.reduceToNat, UInt8.reduceToNat, Nat.reduceLeDiff, Nat.reduceEqDiff, Nat.sub_zero, Int.add_zero, Int.zero_add, Nat.add_zero, Nat.zero_add, Nat.zero_mul, a]
            refine kb ?_ h
            simp only [isName, b, Bool.and_false]
          · simp (disch := first | omega | (simp only [List.length_cons, List.length_nil, true_and, and_true, nx_push, nx_put, nx_mark]; try omega)) only [go_sem, ↓reduceIte, Nat.reduceAdd, Nat.reduceMul, Nat.reduceSub, Int.reduceToNat, UInt8.reduceToNat, Nat.reduceLeDiff, Nat.reduceEqDiff, Nat.sub_zero, Int.add_zero, Int.zero_add, Nat.add_zero, Nat.zero_add, Nat.zero_mul]
            refine kb ?_ h
            simp only [isName, b, h3, List.length_cons]; simp; omega
        | false =>
          simp (disch := first | omega | (simp only [List.length_cons, List.length_nil, true_and, and_true, nx_push, nx_put, nx_mark]; try omega)) only [go_sem, ↓reduceIte, Nat.reduceAdd, Nat.reduceMul, Nat.reduceSub, Int.reduceToNat, UInt8.reduceToNat, Nat.reduceLeDiff, Nat.reduceEqDiff, Nat.sub_zero, Int.add_zero, Int.zero_add, Nat.add_zero, Nat.zero_add, Nat.zero_mul, h1, h2, h3]
          refine kb ?_ h
          simp [isName, h3]
/-! ### Words -/
/-- What stands ahead of a blank. -/
def tk (l : List UInt8) : List UInt8 := l.takeWhile fun c => !decide (c.toNat = 32) && !decide (c.toNat = 9)
theorem ixOf_nil (b : Nat) : ixOf [] b = -1 := rfl
theorem idxF_ge (b : Nat) : ∀ (l : List UInt8) (k : Nat), -1 ≤ idxF l b k := fun l => by
  induction l with
  | nil => intro k; simp [idxF]
  | cons y l ih =>
    intro k
    simp only [idxF]
    rcases Bool.eq_false_or_eq_true (Nat.beq y.toNat b) with h | h
    · rw [h]; simp only [cond_true, Int.ofNat_eq_natCast]; omega
    · rw [h]; exact ih _
theorem idxF_up (l : List UInt8) (b : Nat) : ∀ k, idxF l b k = if idxF l b 0 = -1 then -1 else idxF l b 0 + k := by
  induction l with
  | nil => intro k; simp [idxF]
  | cons c l ih =>
    intro k
    simp only [idxF]
    rcases Bool.eq_false_or_eq_true (Nat.beq c.toNat b) with h | h
    · simp [h]
    · simp only [h, cond_false]
      rw [ih (Nat.succ k), ih (Nat.succ 0)]
      have hge := idxF_ge b l 0
      by_cases h : idxF l b 0 = -1
      · simp [h]
      · have h2 : ¬ (idxF l b 0 + ((Nat.succ 0 : Nat) : Int) = -1) := by omega
        rw [if_neg h, if_neg h, if_neg h2]; omega
theorem ixOf_cons (c : UInt8) (l : List UInt8) (b : Nat) : ixOf (c :: l) b = if c.toNat = b then 0 else if ixOf l b = -1 then -1 else ixOf l b + 1 := by
  unfold ixOf
  simp only [idxF, beqN]
  by_cases h : c.toNat = b
  · simp [h]
  · simp only [h, decide_false, cond_false, if_false]; rw [idxF_up]; rfl
theorem ixOf_ge (l : List UInt8) (b : Nat) : -1 ≤ ixOf l b ∧ ixOf l b < l.length := by
  induction l with
  | nil => simp [ixOf_nil]
  | cons c l ih => rw [ixOf_cons]; simp only [List.length_cons]; split <;> (try split) <;> omega
theorem ixOf_tk (l : List UInt8) : (ixOf l 32 < 0 → ixOf l 9 < 0 → (tk l).length = l.length) ∧ (0 ≤ ixOf l 9 → (ixOf l 32 < 0 ∨ ixOf l 9 < ixOf l 32) → ((tk l).length : Int) = ixOf l 9) ∧ (0 ≤ ixOf l 32 → (ixOf l 9 < 0 ∨ ixOf l 32 ≤ ixOf l 9) → ((tk l).length : Int) = ixOf l 32) := by
  induction l with
  | nil => simp [ixOf_nil, tk]
  | cons c l ih =>
    have g1 := ixOf_ge l 32
    have g2 := ixOf_ge l 9
    rw [ixOf_cons, ixOf_cons]
    obtain ⟨i1, i2, i3⟩ := ih
    by_cases h1 : c.toNat = 32
    · have : tk (c :: l) = [] := by simp [tk, h1]
      rw [this]; simp [h1]; omega
    · by_cases h2 : c.toNat = 9
      · have : tk (c :: l) = [] := by simp [tk, h2]
        rw [this]; simp [h2]; omega
      · have : (tk (c :: l)).length = (tk l).length + 1 := by simp [tk, h1, h2]
        rw [this]; simp only [h1, h2, if_false, List.length_cons]
        refine ⟨fun a b => ?_, fun a b => ?_, fun a b => ?_⟩
        · have := i1 (by split at a <;> omega) (by split at b <;> omega); omega
        · have := i2 (by split at a <;> omega) (by split at a <;> (try split at b) <;> omega)
          split <;> omega
        · have := i3 (by split at a <;> omega) (by split at a <;> (try split at b) <;> omega)
          split <;> omega
theorem tk_take (l : List UInt8) : l.take (tk l).length = tk l := by
  have := List.takeWhile_prefix (l := l) (fun c => !decide (c.toNat = 32) && !decide (c.toNat = 9))
  exact (List.prefix_iff_eq_take.1 this).symm
theorem blank_ix (c : UInt8) : (0 ≤ ixOf [32, 9] c.toNat) ↔ (c.toNat = 32 ∨ c.toNat = 9) := by
  rw [ixOf_cons, ixOf_cons, ixOf_nil]
  have e1 : (32 : UInt8).toNat = 32 := rfl
  have e2 : (9 : UInt8).toNat = 9 := rfl
  rw [e1, e2]
  by_cases h1 : 32 = c.toNat
  · simp [h1]
  · by_cases h2 : 9 = c.toNat
    · simp [← h2]
    · simp [h1, h2]; omega
/-- A line's words, each with its place; so many bytes at most. -/
def wordsF : Nat → List UInt8 → Int → List (List UInt8 × Int)
  | 0, _, _ => []
  | _ + 1, [], _ => []
  | n + 1, c :: r, p => if c.toNat = 32 ∨ c.toNat = 9 then wordsF n r (p + 1) else if c.toNat = 35 then [] else
    (tk (c :: r), p) :: wordsF n ((c :: r).drop (tk (c :: r)).length) (p + (tk (c :: r)).length)
def Rword : Gt → List AV → List UInt8 × Int → Prop := fun _ c x => c = [.s x.1, .i .i64 x.2]
theorem Rword_mono : Mono Rword := fun _ _ _ _ _ h => h
theorem words_loop {m : Nat} {s : List UInt8} {p : Int} {Q : Ex → Tr → Mem → Prop} (hs : s.length ≤ 1000000) (hp : 0 ≤ p) (hp2 : p ≤ 1000000) : ∀ (n i : Nat) (f : Nat → AV) (H : Mem) (v : AV) (acc : List (List UInt8 × Int)), s.length - i ≤ n → i ≤ s.length → acc.length ≤ i → f 0 = .s s → f 1 = .i .i64 p → f 5 = v → f 6 = .i .i64 i → SlO 2 ty_api_Word Rword m H v acc → Wf H → m ≤ H.next →
    (∀ f' H' v', f' 5 = v' → SlO 2 ty_api_Word Rword m H' v' (acc ++ wordsF n (s.drop i) (p + i)) → Ext m H H' → Q (.ex 0) (trO 59 f') H') → @W S false (.loop lp_line_words_0) (trO 59 f) H ⟨Q⟩ := by
  intro n
  induction n with
  | zero =>
    intro i f H v acc h1 h2 h3 e0 e1 e5 e6 hO hw hmn k
    have : i = s.length := by omega
    subst this
    rw [w_loop]
    unfold lp_line_words_0
    simp (disch := first | omega | (simp only [List.length_cons, List.length_nil, true_and, and_true, nx_push, nx_put, nx_mark]; try omega)) only [go_sem, ↓reduceIte, Nat.reduceAdd, Nat.reduceMul, Nat.reduceSub, Int.reduceToNat, UInt8.reduceToNat, Nat.reduceLeDiff, Nat.reduceEqDiff, Nat.sub_zero, Int.add_zero, Int.zero_add, Nat.add_zero, Nat.zero_add, Nat.zero_mul, e0, e1, e5, e6]
    exact atQ 59 rfl (k _ H v rfl (by simpa [wordsF] using hO) (Ext.refl hw))
  | succ n ih =>
    intro i f H v acc h1 h2 h3 e0 e1 e5 e6 hO hw hmn k
    rw [w_loop]
    unfold lp_line_words_0
    simp (disch := first | omega | (simp only [List.length_cons, List.length_nil, true_and, and_true, nx_push, nx_put, nx_mark]; try omega)) only [go_sem, ↓reduceIte, Nat.reduceAdd, Nat.reduceMul, Nat.reduceSub, Int.reduceToNat, UInt8.reduceToNat, Nat.reduceLeDiff, Nat.reduceEqDiff, Nat.sub_zero, Int.add_zero, Int.zero_add, Nat.add_zero, Nat.zero_add, Nat.zero_mul, e0, e1, e5, e6]
    refine cnd_dec (fun h => ?_) (fun h => ?_)
    · obtain ⟨c, r, hr⟩ : ∃ c r, s.drop i = c :: r := by
        cases e : s.drop i with
        | nil => have := congrArg List.length e; simp at this; omega
        | cons c r => exact ⟨c, r, rfl⟩
      have hlen : (c :: r).length = s.length - i := by rw [← hr]; simp
      have hrest : List.take (s.length - i) (List.drop i s) = c :: r := by rw [hr]; exact List.take_of_length_le (by omega)
      have hr1 : s.drop (i + 1) = r := by rw [← List.drop_drop, hr]; rfl
      simp only [List.length_cons] at hlen
      rw [hr] at k
      simp (disch := first | omega | (simp only [List.length_cons, List.length_nil, true_and, and_true, nx_push, nx_put, nx_mark]; try omega)) only [go_sem, ↓reduceIte, Nat.reduceAdd, Nat.reduceMul, Nat.reduceSub, Int.reduceToNat, UInt8.reduceToNat, Nat.reduceLeDiff, Nat.reduceEqDiff, Nat.sub_zero, Int.add_zero, Int.zero_add, Nat.add_zero, Nat.zero_add, Nat.zero_mul, e0, e1, e5, e6, hrest]
      by_cases hb : c.toNat = 32 ∨ c.toNat = 9
      · have hb2 := (blank_ix c).2 hb
        simp (disch := first | omega | (simp only [List.length_cons, List.length_nil, true_and, and_true, nx_push, nx_put, nx_mark]; try omega)) only [go_sem, ↓reduceIte, Nat.reduceAdd, Nat.reduceMul, Nat.reduceSub, Int.reduceToNat, UInt8.reduceToNat, Nat.reduceLeDiff, Nat.reduceEqDiff, Nat.sub_zero, Int.add_zero, Int.zero_add, Nat.add_zero, Nat.zero_add, Nat.zero_mul, e0, e1, e5, e6, hb2]
        refine atW 59 rfl (ih (i + 1) _ H v acc (by omega) (by omega) (by omega) rfl rfl rfl rfl hO hw hmn (fun f' H' v' a b => k f' H' v' a ?_))
        rw [wordsF, if_pos hb, ← hr1]
        rw [show p + (i : Int) + 1 = p + ((i + 1 : Nat) : Int) by omega]; exact b
      · have hb2 : ¬ 0 ≤ ixOf [32, 9] c.toNat := fun h => hb ((blank_ix c).1 h)
        by_cases hh : c.toNat = 35
        · have hh2 : (c.toNat : Int) = 35 := by omega
          simp (disch := first | omega | (simp only [List.length_cons, List.length_nil, true_and, and_true, nx_push, nx_put, nx_mark]; try omega)) only [go_sem, ↓reduceIte, Nat.reduceAdd, Nat.reduceMul, Nat.reduceSub, Int.reduceToNat, UInt8.reduceToNat, Nat.reduceLeDiff, Nat.reduceEqDiff, Nat.sub_zero, Int.add_zero, Int.zero_add, Nat.add_zero, Nat.zero_add, Nat.zero_mul, e0, e1, e5, e6, hb2, hh2]
          exact atQ 59 rfl (k _ H v rfl (by rw [wordsF, if_neg hb, if_pos hh, List.append_nil]; exact hO) (Ext.refl hw))
        · have hh2 : ¬ (c.toNat : Int) = 35 := by omega
          simp (disch := first | omega | (simp only [List.length_cons, List.length_nil, true_and, and_true, nx_push, nx_put, nx_mark]; try omega)) only [go_sem, ↓reduceIte, Nat.reduceAdd, Nat.reduceMul, Nat.reduceSub, Int.reduceToNat, UInt8.reduceToNat, Nat.reduceLeDiff, Nat.reduceEqDiff, Nat.sub_zero, Int.add_zero, Int.zero_add, Nat.add_zero, Nat.zero_add, Nat.zero_mul, e0, e1, e5, e6, hb2, hh2]
          have g1 := ixOf_ge (c :: r) 32
          have g2 := ixOf_ge (c :: r) 9
          have gt := ixOf_tk (c :: r)
          have gl : (tk (c :: r)).length ≤ (c :: r).length := by rw [← tk_take]; exact List.length_take_le' _ _
          have g0 : 0 < (tk (c :: r)).length := by
            have h32 : ¬ c.toNat = 32 := fun h => hb (.inl h)
            have h9 : ¬ c.toNat = 9 := fun h => hb (.inr h)
            simp [tk, h32, h9]
          generalize ixOf (c :: r) 32 = A at *
          generalize ixOf (c :: r) 9 = B at *
          have gl' : (tk (c :: r)).length ≤ r.length + 1 := by simpa using gl
          have key : ∀ (x : Int) (f' : Nat → AV) (H' : Mem) (v' : AV), x = (i : Int) + (tk (c :: r)).length → f' 0 = .s s → f' 1 = .i .i64 p → f' 5 = v' → f' 6 = .i .i64 x → SlO 2 ty_api_Word Rword m H' v' (acc ++ [(tk (c :: r), p + (i : Int))]) → Ext m H H' → @W S false (.loop lp_line_words_0) (trO 59 f') H' ⟨Q⟩ := fun x f' H' v' hx a0 a1 a5 a6 hO' hw' => by
            obtain ⟨L, hL⟩ : ∃ L, L = (tk (c :: r)).length := ⟨_, rfl⟩
            have hx2 : x = ((i + L : Nat) : Int) := by omega
            rw [hx2] at a6
            refine ih (i + L) f' H' v' _ (by omega) (by omega) (by simp; omega) a0 a1 a5 a6 hO' hw'.wf (Nat.le_trans hmn hw'.next) (fun f2 H2 v2 b1 b2 b3 => k f2 H2 v2 b1 ?_ (hw'.trans b3 (Nat.le_refl _)))
            have hd : (c :: r).drop L = s.drop (i + L) := by rw [← List.drop_drop, hr]
            rw [wordsF, if_neg hb, if_neg hh, ← hL, hd]
            rw [List.append_assoc, List.singleton_append] at b2
            rw [show p + ((i + L : Nat) : Int) = p + (i : Int) + (L : Int) by omega] at b2
            exact b2
          have app : ∀ (X : Nat), X = (tk (c :: r)).length → ∃ v' H', appA (H.push (.mem [.s (List.take X (c :: r)), .i .i64 (p + (i : Int))] 2 ty_api_Word true 0)) 2 24 ty_api_Word [.s [], .i .i64 0] v (.sl H.next 0 1 (some 1)) = some (v', H') ∧ SlO 2 ty_api_Word Rword m H' v' (acc ++ [(tk (c :: r), p + (i : Int))]) ∧ Ext m H H' ∧ H.next ≤ H'.next := fun X hX =>
            SlO.app1 Rword_mono hO hw hmn (Ext.refl hw) rfl rfl (by rw [hX, tk_take]; rfl) (by omega) rfl (by omega) (by omega)
          clear ih k
          simp only [List.length_cons] at g1 g2 gl gt
          repeat' (first | (simp (disch := first | omega | (simp only [List.length_cons, List.length_nil, true_and, and_true, nx_push, nx_put, nx_mark]; try omega)) only [go_sem, ↓reduceIte, Nat.reduceAdd, Nat.reduceMul, Nat.reduceSub, Int.reduceToNat, UInt8.reduceToNat, Nat.reduceLeDiff, Nat.reduceEqDiff, Nat.sub_zero, Int.add_zero, Int.zero_add, Nat.add_zero, Nat.zero_add, Nat.zero_mul, *]) | with_reducible refine grd_dec (fun _ => ?_) (fun _ => ?_) | with_reducible refine cnd_dec (fun _ => ?_) (fun _ => ?_) | with_reducible refine grd_bool (fun _ => ?_) (fun _ => ?_) | with_reducible refine cnd_bool (fun _ => ?_) (fun _ => ?_))
          all_goals first
            | (exfalso; omega)
            | (refine onE_of (app _ ?_) (fun v' H' hh => ?_)
               · omega
               · simp (disch := first | omega | (simp only [List.length_cons, List.length_nil, true_and, and_true, nx_push, nx_put, nx_mark]; try omega)) only [go_sem, ↓reduceIte, Nat.reduceAdd, Nat.reduceMul, Nat.reduceSub, Int.reduceToNat, UInt8.reduceToNat, Nat.reduceLeDiff, Nat.reduceEqDiff, Nat.sub_zero, Int.add_zero, Int.zero_add, Nat.add_zero, Nat.zero_add, Nat.zero_mul]
                 refine atW 59 rfl (key _ _ H' v' ?_ rfl rfl rfl rfl hh.1 hh.2.1)
                 omega)
    · have : i = s.length := by omega
      subst this
      simp (disch := first | omega | (simp only [List.length_cons, List.length_nil, true_and, and_true, nx_push, nx_put, nx_mark]; try omega)) only [go_sem, ↓reduceIte, Nat.reduceAdd, Nat.reduceMul, Nat.reduceSub, Int.reduceToNat, UInt8.reduceToNat, Nat.reduceLeDiff, Nat.reduceEqDiff, Nat.sub_zero, Int.add_zero, Int.zero_add, Nat.add_zero, Nat.zero_add, Nat.zero_mul]
      exact atQ 59 rfl (k _ H v rfl (by simpa [wordsF] using hO) (Ext.refl hw))
theorem li_words {s : List UInt8} {p : Int} (hs : s.length ≤ 1000000) (hp : 0 ≤ p) (hp2 : p ≤ 1000000) (hw : Wf H) (h : ∀ v H', Ext H.next H H' → SlR 2 Rword (sn H.next H') v (wordsF s.length s p) → K v H') : @R S (.f n_line_words) [.s s, .i .i64 p] H ⟨K⟩ := by
  refine run_fn2 rfl rfl ?_
  unfold bd_line_words
  simp (disch := first | omega | (simp only [List.length_cons, List.length_nil, true_and, and_true, nx_push, nx_put, nx_mark]; try omega)) only [go_sem, ↓reduceIte, Nat.reduceAdd, Nat.reduceMul, Nat.reduceSub, Int.reduceToNat, UInt8.reduceToNat, Nat.reduceLeDiff, Nat.reduceEqDiff, Nat.sub_zero, Int.add_zero, Int.zero_add, Nat.add_zero, Nat.zero_add, Nat.zero_mul]
  refine atW 59 rfl (words_loop (m := H.next) hs hp hp2 s.length 0 _ (H.mark []) .nsl [] (by omega) (by omega) (by simp) rfl rfl rfl rfl SlO.nil (hw.mark _) (Nat.le_refl _) (fun f' H' v' a b d => ?_))
  have hm : H'.marks = [] := d.marks
  simp (disch := first | omega | (simp only [List.length_cons, List.length_nil, true_and, and_true, nx_push, nx_put, nx_mark]; try omega)) only [go_sem, ↓reduceIte, Nat.reduceAdd, Nat.reduceMul, Nat.reduceSub, Int.reduceToNat, UInt8.reduceToNat, Nat.reduceLeDiff, Nat.reduceEqDiff, Nat.sub_zero, Int.add_zero, Int.zero_add, Nat.add_zero, Nat.zero_add, Nat.zero_mul, a, hm]
  have b' : SlO 2 ty_api_Word Rword H.next H' v' (wordsF s.length s p) := by simpa using b
  exact h _ _ (Ext.mark d) (SlO.read Rword_mono b')
end Go.Fw.Ro
end
section
/- A text's lines. -/
namespace Go.Fw.Ro
open Go Go.Fw Go.Fw.Sys
set_option maxRecDepth 100000
variable {H : Mem} {K : AV → Mem → Prop}
@[go_sem] theorem st_SplitSeq {s : List UInt8} : @R S (.f n_strings_SplitSeq) [.s s, .s [10]] H ⟨K⟩ ↔ K (.fn n_strings_splitSeq_1 [] [.p (some (H.next + 1, 0)), .p (some (H.next, 0)), .p (some (H.next + 1 + 1, 0))]) (((H.push (.mem [.s s] 0 ty_string true 0)).push (.mem [.s [10]] 0 ty_string true 0)).push (.mem [.i .i64 0] 0 ty_int true 0)) := by
  refine run_iff fun K h => ?_
  refine run_fn2 rfl rfl ?_
  unfold bd_strings_SplitSeq
  simp (disch := first | omega | (simp only [List.length_cons, List.length_nil, true_and, and_true, nx_push, nx_put, nx_mark]; try omega)) only [go_sem, ↓reduceIte, Nat.reduceAdd, Nat.reduceMul, Nat.reduceSub, Int.reduceToNat, UInt8.reduceToNat, Nat.reduceLeDiff, Nat.reduceEqDiff, Nat.sub_zero, Int.add_zero, Int.zero_add, Nat.add_zero, Nat.zero_add, Nat.zero_mul]
  refine run_fn2 rfl rfl ?_
  unfold bd_strings_splitSeq
  simp (disch := first | omega | (simp only [List.length_cons, List.length_nil, true_and, and_true, nx_push, nx_put, nx_mark]; try omega)) only [go_sem, ↓reduceIte, Nat.reduceAdd, Nat.reduceMul, Nat.reduceSub, Int.reduceToNat, UInt8.reduceToNat, Nat.reduceLeDiff, Nat.reduceEqDiff, Nat.sub_zero, Int.add_zero, Int.zero_add, Nat.add_zero, Nat.zero_add, Nat.zero_mul]
  exact h
abbrev LineT := Int × List (List UInt8 × Int)
def Rline : Gt → List AV → LineT → Prop := fun G c x => ∃ w, c = [.i .i64 x.1, w] ∧ SlR 2 Rword G w x.2
theorem Rline_mono : Mono Rline := fun _ _ _ _ k ⟨w, e, h⟩ => ⟨w, e, h.mono Rword_mono k⟩
/-- A line more, if it has words. -/
def more1 (acc : List LineT) : List (List UInt8 × Int) → List LineT
  | [] => acc
  | w :: ws => acc ++ [(w.2, w :: ws)]
/-- What the memory holds between two rounds. -/
structure LI (ms : List Nat) (n : Nat) (env : Tr) (rest : List UInt8) (p : Int) (acc : List LineT) (H : Mem) : Prop where
  wf : Wf H
  nx : n + 10 ≤ H.next
  marks : H.marks = ms
  g2 : H.get n = .mem [.nsl] 0 ty__api_Line true 0
  g3 : H.get (n + 1) = .mem [.i .i64 0] 0 ty_int true 0
  g4 : H.get (n + 2) = .mem [.i .i64 0] 0 ty_api_Errno true 0
  g5 : ∃ v, H.get (n + 3) = .mem [v] 0 ty__api_Line true 0 ∧ SlO 2 ty_api_Line Rline (n + 10) H v acc
  g6 : H.get (n + 4) = .mem [.i .i64 p] 0 ty_int true 0
  gs : H.get (n + 5) = .mem [.s rest] 0 ty_string true 0
  gp : H.get (n + 6) = .mem [.s [10]] 0 ty_string true 0
  gv : H.get (n + 7) = .mem [.i .i64 0] 0 ty_int true 0
  gd : H.get (n + 8) = .defs
  gl : H.get (n + 9) = .loop .ready none env [p21] as_line_Lines_0 lp_line_Lines_0
  na : (acc.length : Int) ≤ p
/-- And behind a round that has left. -/
structure LX (ms : List Nat) (n : Nat) (p : Int) (H : Mem) : Prop where
  wf : Wf H
  nx : n + 10 ≤ H.next
  marks : H.marks = ms
  g2 : H.get n = .mem [.nsl] 0 ty__api_Line true 0
  g3 : H.get (n + 1) = .mem [.i .i64 p] 0 ty_int true 0
  g4 : H.get (n + 2) = .mem [.i .i64 7] 0 ty_api_Errno true 0
  gd : H.get (n + 8) = .defs
  gl : ∃ t ps a b, H.get (n + 9) = .loop .done (some .rt) t ps a b
theorem more1_le (acc : List LineT) (ws : List (List UInt8 × Int)) : (more1 acc ws).length ≤ acc.length + 1 := by
  cases ws <;> simp [more1]
theorem trimEnd_le (s t : List UInt8) : (trimEnd s t).length ≤ s.length := by
  unfold trimEnd; split
  · simp
  · exact Nat.le_refl _
theorem badAt_bd : ∀ (s : List UInt8) (k : Nat), -1 ≤ badAt s k ∧ badAt s k ≤ k + s.length
  | [], k => by simp [badAt]
  | c :: r, k => by
    have := badAt_bd r (k + 1)
    unfold badAt
    simp only [List.length_cons]
    split <;> omega
theorem Lines_asg {env : Tr} {Q : Ex → Tr → Mem → Prop} : @W S true as_line_Lines_0 env H ⟨Q⟩ ↔ Q .nm (env.set p7 (env.get p21)) H := by
  unfold as_line_Lines_0
  simp only [go_sem]
theorem Lines_round {ms : List Nat} {n : Nat} {tE : Tr} {fE : Nat → AV} {rest l : List UInt8} {p : Int} {acc : List LineT} (I : LI ms n tE rest p acc H) (hE : tE = trO 52 fE) (e2 : fE 2 = .p (some (n, 0))) (e3 : fE 3 = .p (some (n + 1, 0))) (e4 : fE 4 = .p (some (n + 2, 0))) (e5 : fE 5 = .p (some (n + 3, 0))) (e6 : fE 6 = .p (some (n + 4, 0)))
    (hl : l.length ≤ 200000) (hp : 0 ≤ p) (hp2 : p ≤ 200000)
    (k1 : badAt (trimEnd l [13]) 0 < 0 → ∀ H', LI ms n tE rest (p + l.length + 1) (more1 acc (wordsF (trimEnd l [13]).length (trimEnd l [13]) p)) H' → Ext n H H' → K (.b true) H')
    (k2 : 0 ≤ badAt (trimEnd l [13]) 0 → ∀ H', LX ms n (p + badAt (trimEnd l [13]) 0) H' → Ext n H H' → K (.b false) H') : @R S (.y (n + 9)) [.s l] H ⟨K⟩ := by
  have ht := trimEnd_le l [13]
  have hbd := badAt_bd (trimEnd l [13]) 0
  obtain ⟨v, gv1, gv2⟩ := I.g5
  have hn := I.nx
  have hna := I.na
  refine r_round rfl I.gl rfl ?_
  rw [show setE [p21] [AV.s l] tE = setE [p21] [AV.s l] (trO 52 fE) by rw [hE]]
  rw [Lines_asg]
  simp (disch := first | omega | (simp only [List.length_cons, List.length_nil, true_and, and_true, nx_push, nx_put, nx_mark]; try omega)) only [go_sem, ↓reduceIte, Nat.reduceAdd, Nat.reduceMul, Nat.reduceSub, Int.reduceToNat, UInt8.reduceToNat, Nat.reduceLeDiff, Nat.reduceEqDiff, Nat.sub_zero, Int.add_zero, Int.zero_add, Nat.add_zero, Nat.zero_add, Nat.zero_mul, e2, e3, e4, e5, e6]
  refine ⟨I.gl, ?_⟩
  obtain ⟨Hb, hHb⟩ : ∃ Hb, Hb = H.put (n + 9) (.loop .busy none tE [p21] as_line_Lines_0 lp_line_Lines_0) := ⟨_, rfl⟩
  have bw : Wf Hb := by rw [hHb]; exact I.wf.put (by omega) _
  have bn : Hb.next = H.next := by rw [hHb]; rfl
  have bm : Hb.marks = ms := by rw [hHb]; exact I.marks
  have bg : ∀ id, id ≠ n + 9 → Hb.get id = H.get id := fun id h => by rw [hHb, Mem.get_put, if_neg h]
  have bl : Hb.get (n + 9) = .loop .busy none tE [p21] as_line_Lines_0 lp_line_Lines_0 := by rw [hHb, Mem.get_put, if_pos rfl]
  have eb : Ext n H Hb := by rw [hHb]; exact (Ext.refl I.wf).put (by omega) (by omega) _
  have bd := (bg (n + 8) (by omega)).trans I.gd
  have b2 := (bg n (by omega)).trans I.g2
  have b3 := (bg (n + 1) (by omega)).trans I.g3
  have b4 := (bg (n + 2) (by omega)).trans I.g4
  have b5 := (bg (n + 3) (by omega)).trans gv1
  have b6 := (bg (n + 4) (by omega)).trans I.g6
  have bO : SlO 2 ty_api_Line Rline (n + 10) Hb v acc := by rw [hHb]; exact gv2.put (by omega)
  rw [← hHb]
  unfold lp_line_Lines_0
  simp (disch := first | omega | (simp only [List.length_cons, List.length_nil, true_and, and_true, nx_push, nx_put, nx_mark]; try omega)) only [go_sem, ↓reduceIte, Nat.reduceAdd, Nat.reduceMul, Nat.reduceSub, Int.reduceToNat, UInt8.reduceToNat, Nat.reduceLeDiff, Nat.reduceEqDiff, Nat.sub_zero, Int.add_zero, Int.zero_add, Nat.add_zero, Nat.zero_add, Nat.zero_mul, e2, e3, e4, e5, e6]
  refine cnd_dec (fun hb => ?_) (fun hb => ?_)
  · simp (disch := first | omega | (simp only [List.length_cons, List.length_nil, true_and, and_true, nx_push, nx_put, nx_mark]; try omega)) only [go_sem, ↓reduceIte, Nat.reduceAdd, Nat.reduceMul, Nat.reduceSub, Int.reduceToNat, UInt8.reduceToNat, Nat.reduceLeDiff, Nat.reduceEqDiff, Nat.sub_zero, Int.add_zero, Int.zero_add, Nat.add_zero, Nat.zero_add, Nat.zero_mul, e2, e3, e4, e5, e6]
    refine w_dregA rfl rfl ?_
    simp (disch := first | omega | (simp only [List.length_cons, List.length_nil, true_and, and_true, nx_push, nx_put, nx_mark]; try omega)) only [go_sem, ↓reduceIte, Nat.reduceAdd, Nat.reduceMul, Nat.reduceSub, Int.reduceToNat, UInt8.reduceToNat, Nat.reduceLeDiff, Nat.reduceEqDiff, Nat.sub_zero, Int.add_zero, Int.zero_add, Nat.add_zero, Nat.zero_add, Nat.zero_mul, e2, e3, e4, e5, e6, b6, b2, b3, b4]
    refine ⟨.busy, none, tE, [p21], as_line_Lines_0, lp_line_Lines_0, ?_, ?_⟩
    · simp (disch := first | omega | (simp only [List.length_cons, List.length_nil, true_and, and_true, nx_push, nx_put, nx_mark]; try omega)) only [go_sem, ↓reduceIte, Nat.reduceAdd, Nat.reduceMul, Nat.reduceSub, Int.reduceToNat, UInt8.reduceToNat, Nat.reduceLeDiff, Nat.reduceEqDiff, Nat.sub_zero, Int.add_zero, Int.zero_add, Nat.add_zero, Nat.zero_add, Nat.zero_mul, bl]
    · have ex : Ext n H _ := ((((eb.put (id := n) (by omega) (by omega) (.mem [.nsl] 0 ty__api_Line true 0)).put (id := n + 1) (by omega) (by simp; omega) (.mem [.i .i64 (p + badAt (trimEnd l [13]) 0)] 0 ty_int true 0)).put (id := n + 2) (by omega) (by simp; omega) (.mem [.i .i64 7] 0 ty_api_Errno true 0)).put (id := n + 9) (by omega) (by simp; omega) (.loop .done (some .rt) tE [p21] as_line_Lines_0 lp_line_Lines_0)).remark
      refine k2 hb _ ⟨ex.wf, by simp (disch := first | omega | (simp only [List.length_cons, List.length_nil, true_and, and_true, nx_push, nx_put, nx_mark]; try omega)) only [go_sem, ↓reduceIte, Nat.reduceAdd, Nat.reduceMul, Nat.reduceSub, Int.reduceToNat, UInt8.reduceToNat, Nat.reduceLeDiff, Nat.reduceEqDiff, Nat.sub_zero, Int.add_zero, Int.zero_add, Nat.add_zero, Nat.zero_add, Nat.zero_mul]; omega, by simp (disch := first | omega | (simp only [List.length_cons, List.length_nil, true_and, and_true, nx_push, nx_put, nx_mark]; try omega)) only [go_sem, ↓reduceIte, Nat.reduceAdd, Nat.reduceMul, Nat.reduceSub, Int.reduceToNat, UInt8.reduceToNat, Nat.reduceLeDiff, Nat.reduceEqDiff, Nat.sub_zero, Int.add_zero, Int.zero_add, Nat.add_zero, Nat.zero_add, Nat.zero_mul, I.marks], by simp (disch := first | omega | (simp only [List.length_cons, List.length_nil, true_and, and_true, nx_push, nx_put, nx_mark]; try omega)) only [go_sem, ↓reduceIte, Nat.reduceAdd, Nat.reduceMul, Nat.reduceSub, Int.reduceToNat, UInt8.reduceToNat, Nat.reduceLeDiff, Nat.reduceEqDiff, Nat.sub_zero, Int.add_zero, Int.zero_add, Nat.add_zero, Nat.zero_add, Nat.zero_mul], by simp (disch := first | omega | (simp only [List.length_cons, List.length_nil, true_and, and_true, nx_push, nx_put, nx_mark]; try omega)) only [go_sem, ↓reduceIte, Nat.reduceAdd, Nat.reduceMul, Nat.reduceSub, Int.reduceToNat, UInt8.reduceToNat, Nat.reduceLeDiff, Nat.reduceEqDiff, Nat.sub_zero, Int.add_zero, Int.zero_add, Nat.add_zero, Nat.zero_add, Nat.zero_mul], by simp (disch := first | omega | (simp only [List.length_cons, List.length_nil, true_and, and_true, nx_push, nx_put, nx_mark]; try omega)) only [go_sem, ↓reduceIte, Nat.reduceAdd, Nat.reduceMul, Nat.reduceSub, Int.reduceToNat, UInt8.reduceToNat, Nat.reduceLeDiff, Nat.reduceEqDiff, Nat.sub_zero, Int.add_zero, Int.zero_add, Nat.add_zero, Nat.zero_add, Nat.zero_mul], by simp (disch := first | omega | (simp only [List.length_cons, List.length_nil, true_and, and_true, nx_push, nx_put, nx_mark]; try omega)) only [go_sem, ↓reduceIte, Nat.reduceAdd, Nat.reduceMul, Nat.reduceSub, Int.reduceToNat, UInt8.reduceToNat, Nat.reduceLeDiff, Nat.reduceEqDiff, Nat.sub_zero, Int.add_zero, Int.zero_add, Nat.add_zero, Nat.zero_add, Nat.zero_mul, bd], ⟨tE, [p21], as_line_Lines_0, lp_line_Lines_0, by simp (disch := first | omega | (simp only [List.length_cons, List.length_nil, true_and, and_true, nx_push, nx_put, nx_mark]; try omega)) only [go_sem, ↓reduceIte, Nat.reduceAdd, Nat.reduceMul, Nat.reduceSub, Int.reduceToNat, UInt8.reduceToNat, Nat.reduceLeDiff, Nat.reduceEqDiff, Nat.sub_zero, Int.add_zero, Int.zero_add, Nat.add_zero, Nat.zero_add, Nat.zero_mul]⟩⟩ ex
  · simp (disch := first | omega | (simp only [List.length_cons, List.length_nil, true_and, and_true, nx_push, nx_put, nx_mark]; try omega)) only [go_sem, ↓reduceIte, Nat.reduceAdd, Nat.reduceMul, Nat.reduceSub, Int.reduceToNat, UInt8.reduceToNat, Nat.reduceLeDiff, Nat.reduceEqDiff, Nat.sub_zero, Int.add_zero, Int.zero_add, Nat.add_zero, Nat.zero_add, Nat.zero_mul, e2, e3, e4, e5, e6, b6]
    refine li_words (by omega) hp (by omega) bw (fun w H1 x1 x2 => ?_)
    have c2 := x1.of b2 (by omega)
    have c3 := x1.of b3 (by omega)
    have c4 := x1.of b4 (by omega)
    have c5 := x1.of b5 (by omega)
    have c6 := x1.of b6 (by omega)
    have cl := x1.of bl (by omega)
    have cn := x1.next
    have xl := x2.len
    have fin : ∀ (env' : Tr) (H2 : Mem) (v' : AV), Wf H2 → H1.next ≤ H2.next → H2.marks = ms → (∀ id, id < n + 10 → id ≠ n + 3 → H2.get id = H1.get id) → H2.get (n + 3) = .mem [v'] 0 ty__api_Line true 0 → SlO 2 ty_api_Line Rline (n + 10) H2 v' (more1 acc (wordsF (trimEnd l [13]).length (trimEnd l [13]) p)) →
        rdEnd (n + 9) H.marks K .nm env' (H2.put (n + 4) (.mem [.i .i64 (p + (l.length + 1))] 0 ty_int true 0)) := fun env' H2 v' w2 hx hmk hg h5 hO => by
      have dl := (hg (n + 9) (by omega) (by omega)).trans cl
      refine ⟨.busy, none, tE, [p21], as_line_Lines_0, lp_line_Lines_0, by simp (disch := first | omega | (simp only [List.length_cons, List.length_nil, true_and, and_true, nx_push, nx_put, nx_mark]; try omega)) only [go_sem, ↓reduceIte, Nat.reduceAdd, Nat.reduceMul, Nat.reduceSub, Int.reduceToNat, UInt8.reduceToNat, Nat.reduceLeDiff, Nat.reduceEqDiff, Nat.sub_zero, Int.add_zero, Int.zero_add, Nat.add_zero, Nat.zero_add, Nat.zero_mul, dl], ?_⟩
      have hlow : ∀ id, id < n → H2.get id = H.get id := fun id h => by rw [hg id (by omega) (by omega), x1.get id (by omega), eb.get id h]
      have wq : Wf ((H2.put (n + 4) (.mem [.i .i64 (p + (l.length + 1))] 0 ty_int true 0)).put (n + 9) (.loop .ready none tE [p21] as_line_Lines_0 lp_line_Lines_0)) := (w2.put (by omega) _).put (by simp; omega) _
      have O' : SlO 2 ty_api_Line Rline (n + 10) ((H2.put (n + 4) (.mem [.i .i64 (p + (l.length + 1))] 0 ty_int true 0)).put (n + 9) (.loop .ready none tE [p21] as_line_Lines_0 lp_line_Lines_0)) v' (more1 acc (wordsF (trimEnd l [13]).length (trimEnd l [13]) p)) := (hO.put (by omega)).put (by omega)
      refine k1 (by omega) _ ⟨wq, by simp (disch := first | omega | (simp only [List.length_cons, List.length_nil, true_and, and_true, nx_push, nx_put, nx_mark]; try omega)) only [go_sem, ↓reduceIte, Nat.reduceAdd, Nat.reduceMul, Nat.reduceSub, Int.reduceToNat, UInt8.reduceToNat, Nat.reduceLeDiff, Nat.reduceEqDiff, Nat.sub_zero, Int.add_zero, Int.zero_add, Nat.add_zero, Nat.zero_add, Nat.zero_mul]; omega, by rw [Mem.marks_mark]; exact I.marks, ?_, ?_, ?_, ⟨v', ?_, O'⟩, ?_, ?_, ?_, ?_, ?_, ?_, ?_⟩ ⟨by simp (disch := first | omega | (simp only [List.length_cons, List.length_nil, true_and, and_true, nx_push, nx_put, nx_mark]; try omega)) only [go_sem, ↓reduceIte, Nat.reduceAdd, Nat.reduceMul, Nat.reduceSub, Int.reduceToNat, UInt8.reduceToNat, Nat.reduceLeDiff, Nat.reduceEqDiff, Nat.sub_zero, Int.add_zero, Int.zero_add, Nat.add_zero, Nat.zero_add, Nat.zero_mul]; have := eb.next; omega, rfl, fun id hid => ?_, wq⟩
      · have := (hg n (by omega) (by omega)).trans c2; simp (disch := first | omega | (simp only [List.length_cons, List.length_nil, true_and, and_true, nx_push, nx_put, nx_mark]; try omega)) only [go_sem, ↓reduceIte, Nat.reduceAdd, Nat.reduceMul, Nat.reduceSub, Int.reduceToNat, UInt8.reduceToNat, Nat.reduceLeDiff, Nat.reduceEqDiff, Nat.sub_zero, Int.add_zero, Int.zero_add, Nat.add_zero, Nat.zero_add, Nat.zero_mul, this]
      · have := (hg (n + 1) (by omega) (by omega)).trans c3; simp (disch := first | omega | (simp only [List.length_cons, List.length_nil, true_and, and_true, nx_push, nx_put, nx_mark]; try omega)) only [go_sem, ↓reduceIte, Nat.reduceAdd, Nat.reduceMul, Nat.reduceSub, Int.reduceToNat, UInt8.reduceToNat, Nat.reduceLeDiff, Nat.reduceEqDiff, Nat.sub_zero, Int.add_zero, Int.zero_add, Nat.add_zero, Nat.zero_add, Nat.zero_mul, this]
      · have := (hg (n + 2) (by omega) (by omega)).trans c4; simp (disch := first | omega | (simp only [List.length_cons, List.length_nil, true_and, and_true, nx_push, nx_put, nx_mark]; try omega)) only [go_sem, ↓reduceIte, Nat.reduceAdd, Nat.reduceMul, Nat.reduceSub, Int.reduceToNat, UInt8.reduceToNat, Nat.reduceLeDiff, Nat.reduceEqDiff, Nat.sub_zero, Int.add_zero, Int.zero_add, Nat.add_zero, Nat.zero_add, Nat.zero_mul, this]
      · simp (disch := first | omega | (simp only [List.length_cons, List.length_nil, true_and, and_true, nx_push, nx_put, nx_mark]; try omega)) only [go_sem, ↓reduceIte, Nat.reduceAdd, Nat.reduceMul, Nat.reduceSub, Int.reduceToNat, UInt8.reduceToNat, Nat.reduceLeDiff, Nat.reduceEqDiff, Nat.sub_zero, Int.add_zero, Int.zero_add, Nat.add_zero, Nat.zero_add, Nat.zero_mul, h5]
      · simp (disch := first | omega | (simp only [List.length_cons, List.length_nil, true_and, and_true, nx_push, nx_put, nx_mark]; try omega)) only [go_sem, ↓reduceIte, Nat.reduceAdd, Nat.reduceMul, Nat.reduceSub, Int.reduceToNat, UInt8.reduceToNat, Nat.reduceLeDiff, Nat.reduceEqDiff, Nat.sub_zero, Int.add_zero, Int.zero_add, Nat.add_zero, Nat.zero_add, Nat.zero_mul]
        rw [Int.add_assoc]
      · have := ((hg (n + 5) (by omega) (by omega)).trans (x1.get _ (by omega))).trans ((bg _ (by omega)).trans I.gs); simp (disch := first | omega | (simp only [List.length_cons, List.length_nil, true_and, and_true, nx_push, nx_put, nx_mark]; try omega)) only [go_sem, ↓reduceIte, Nat.reduceAdd, Nat.reduceMul, Nat.reduceSub, Int.reduceToNat, UInt8.reduceToNat, Nat.reduceLeDiff, Nat.reduceEqDiff, Nat.sub_zero, Int.add_zero, Int.zero_add, Nat.add_zero, Nat.zero_add, Nat.zero_mul, this]
      · have := ((hg (n + 6) (by omega) (by omega)).trans (x1.get _ (by omega))).trans ((bg _ (by omega)).trans I.gp); simp (disch := first | omega | (simp only [List.length_cons, List.length_nil, true_and, and_true, nx_push, nx_put, nx_mark]; try omega)) only [go_sem, ↓reduceIte, Nat.reduceAdd, Nat.reduceMul, Nat.reduceSub, Int.reduceToNat, UInt8.reduceToNat, Nat.reduceLeDiff, Nat.reduceEqDiff, Nat.sub_zero, Int.add_zero, Int.zero_add, Nat.add_zero, Nat.zero_add, Nat.zero_mul, this]
      · have := ((hg (n + 7) (by omega) (by omega)).trans (x1.get _ (by omega))).trans ((bg _ (by omega)).trans I.gv); simp (disch := first | omega | (simp only [List.length_cons, List.length_nil, true_and, and_true, nx_push, nx_put, nx_mark]; try omega)) only [go_sem, ↓reduceIte, Nat.reduceAdd, Nat.reduceMul, Nat.reduceSub, Int.reduceToNat, UInt8.reduceToNat, Nat.reduceLeDiff, Nat.reduceEqDiff, Nat.sub_zero, Int.add_zero, Int.zero_add, Nat.add_zero, Nat.zero_add, Nat.zero_mul, this]
      · have := ((hg (n + 8) (by omega) (by omega)).trans (x1.get _ (by omega))).trans ((bg _ (by omega)).trans I.gd); simp (disch := first | omega | (simp only [List.length_cons, List.length_nil, true_and, and_true, nx_push, nx_put, nx_mark]; try omega)) only [go_sem, ↓reduceIte, Nat.reduceAdd, Nat.reduceMul, Nat.reduceSub, Int.reduceToNat, UInt8.reduceToNat, Nat.reduceLeDiff, Nat.reduceEqDiff, Nat.sub_zero, Int.add_zero, Int.zero_add, Nat.add_zero, Nat.zero_add, Nat.zero_mul, this]
      · simp (disch := first | omega | (simp only [List.length_cons, List.length_nil, true_and, and_true, nx_push, nx_put, nx_mark]; try omega)) only [go_sem, ↓reduceIte, Nat.reduceAdd, Nat.reduceMul, Nat.reduceSub, Int.reduceToNat, UInt8.reduceToNat, Nat.reduceLeDiff, Nat.reduceEqDiff, Nat.sub_zero, Int.add_zero, Int.zero_add, Nat.add_zero, Nat.zero_add, Nat.zero_mul]
      · have := more1_le acc (wordsF (trimEnd l [13]).length (trimEnd l [13]) p); omega
      · have := hlow id hid; simp (disch := first | omega | (simp only [List.length_cons, List.length_nil, true_and, and_true, nx_push, nx_put, nx_mark]; try omega)) only [go_sem, ↓reduceIte, Nat.reduceAdd, Nat.reduceMul, Nat.reduceSub, Int.reduceToNat, UInt8.reduceToNat, Nat.reduceLeDiff, Nat.reduceEqDiff, Nat.sub_zero, Int.add_zero, Int.zero_add, Nat.add_zero, Nat.zero_add, Nat.zero_mul, this]
    cases hws : wordsF (trimEnd l [13]).length (trimEnd l [13]) p with
    | nil =>
      rw [hws] at x2 xl fin
      simp (disch := first | omega | (simp only [List.length_cons, List.length_nil, true_and, and_true, nx_push, nx_put, nx_mark]; try omega)) only [go_sem, ↓reduceIte, Nat.reduceAdd, Nat.reduceMul, Nat.reduceSub, Int.reduceToNat, UInt8.reduceToNat, Nat.reduceLeDiff, Nat.reduceEqDiff, Nat.sub_zero, Int.add_zero, Int.zero_add, Nat.add_zero, Nat.zero_add, Nat.zero_mul, e2, e3, e4, e5, e6, c6, xl]
      exact fin _ H1 v x1.wf (Nat.le_refl _) (x1.marks.trans bm) (fun _ _ _ => rfl) c5 (bO.grow Rline_mono bw x1 (by omega))
    | cons w0 ws =>
      rw [hws] at x2 xl fin
      obtain ⟨id, q, c, y1, y2, y3, y4, y5, y6⟩ := (x2.mono Rword_mono sn_le).at_ (j := 0) (x := w0) rfl
      have y3' := y3 1 (by omega)
      simp only [Rword] at y2
      subst y2
      have hid := x1.wf id y6
      simp (disch := first | omega | (simp only [List.length_cons, List.length_nil, true_and, and_true, nx_push, nx_put, nx_mark]; try omega)) only [go_sem, ↓reduceIte, Nat.reduceAdd, Nat.reduceMul, Nat.reduceSub, Int.reduceToNat, UInt8.reduceToNat, Nat.reduceLeDiff, Nat.reduceEqDiff, Nat.sub_zero, Int.add_zero, Int.zero_add, Nat.add_zero, Nat.zero_add, Nat.zero_mul, e2, e3, e4, e5, e6, c6, xl]
      refine w_dregA rfl rfl ?_
      have y1' : ixVS 2 w (.i .i64 0) = some (.p (some (id, q))) := y1
      have w1 : w.one = true := x2.one
      have wc := cells_of_one w1
      simp (disch := first | omega | (simp only [List.length_cons, List.length_nil, true_and, and_true, nx_push, nx_put, nx_mark]; try omega)) only [go_sem, ↓reduceIte, Nat.reduceAdd, Nat.reduceMul, Nat.reduceSub, Int.reduceToNat, UInt8.reduceToNat, Nat.reduceLeDiff, Nat.reduceEqDiff, Nat.sub_zero, Int.add_zero, Int.zero_add, Nat.add_zero, Nat.zero_add, Nat.zero_mul, e2, e3, e4, e5, e6, c5, y1', y3', wc]
      refine onE_of (SlO.app1 (x := (w0.2, w0 :: ws)) Rline_mono bO bw (by omega) x1 rfl (by simp only [List.all_cons, w1]; rfl) ⟨w, rfl, x2⟩ (by omega) ?_ ?_ ?_) (fun v' H2 hh => ?_)
      · rfl
      · omega
      · omega
      obtain ⟨hO2, hE2, hL2⟩ := hh
      have q5 := hE2.of b5 (by omega)
      have vc := cells_of_one hO2.one
      have v1 := hO2.one
      have q6 := hE2.of b6 (by omega)
      simp (disch := first | omega | (simp only [List.length_cons, List.length_nil, true_and, and_true, nx_push, nx_put, nx_mark]; try omega)) only [go_sem, ↓reduceIte, Nat.reduceAdd, Nat.reduceMul, Nat.reduceSub, Int.reduceToNat, UInt8.reduceToNat, Nat.reduceLeDiff, Nat.reduceEqDiff, Nat.sub_zero, Int.add_zero, Int.zero_add, Nat.add_zero, Nat.zero_add, Nat.zero_mul, q5, vc, v1, e2, e3, e4, e5, e6, c5, y1', y3', wc, q6]
      have hn2 : H1.next ≤ H2.next := hL2
      refine fin _ (H2.put (n + 3) (.mem [v'] 0 ty__api_Line true 0)) v' (hE2.wf.put (by omega) _) (by simp (disch := first | omega | (simp only [List.length_cons, List.length_nil, true_and, and_true, nx_push, nx_put, nx_mark]; try omega)) only [go_sem, ↓reduceIte, Nat.reduceAdd, Nat.reduceMul, Nat.reduceSub, Int.reduceToNat, UInt8.reduceToNat, Nat.reduceLeDiff, Nat.reduceEqDiff, Nat.sub_zero, Int.add_zero, Int.zero_add, Nat.add_zero, Nat.zero_add, Nat.zero_mul]; omega) (by simp (disch := first | omega | (simp only [List.length_cons, List.length_nil, true_and, and_true, nx_push, nx_put, nx_mark]; try omega)) only [go_sem, ↓reduceIte, Nat.reduceAdd, Nat.reduceMul, Nat.reduceSub, Int.reduceToNat, UInt8.reduceToNat, Nat.reduceLeDiff, Nat.reduceEqDiff, Nat.sub_zero, Int.add_zero, Int.zero_add, Nat.add_zero, Nat.zero_add, Nat.zero_mul]; exact hE2.marks.trans bm) (fun j h1 h2 => ?_) (by simp (disch := first | omega | (simp only [List.length_cons, List.length_nil, true_and, and_true, nx_push, nx_put, nx_mark]; try omega)) only [go_sem, ↓reduceIte, Nat.reduceAdd, Nat.reduceMul, Nat.reduceSub, Int.reduceToNat, UInt8.reduceToNat, Nat.reduceLeDiff, Nat.reduceEqDiff, Nat.sub_zero, Int.add_zero, Int.zero_add, Nat.add_zero, Nat.zero_add, Nat.zero_mul]) (hO2.put (by omega))
      rw [Mem.get_put, if_neg h2, hE2.get j h1, x1.get j (by omega)]
/-! ### The loop over the pieces -/
/-- A text's pieces between line ends; so many at most. -/
def piecesF : Nat → List UInt8 → List (List UInt8)
  | 0, s => [s]
  | n + 1, s => if ixOf s 10 < 0 then [s] else s.take (ixOf s 10).toNat :: piecesF n (s.drop ((ixOf s 10).toNat + 1))
/-- The lines of pieces, from a place on; or where a byte stands that may not. -/
def linesG : List (List UInt8) → Int → List LineT → Except Int (List LineT)
  | [], _, acc => .ok acc
  | l :: r, p, acc => if 0 ≤ badAt (trimEnd l [13]) 0 then .error (p + badAt (trimEnd l [13]) 0) else linesG r (p + l.length + 1) (more1 acc (wordsF (trimEnd l [13]).length (trimEnd l [13]) p))
theorem ixOf_lt (s : List UInt8) (b : Nat) (h : 0 ≤ ixOf s b) : (ixOf s b).toNat < s.length := by have := ixOf_ge s b; omega
theorem iter_loop {ms : List Nat} {n : Nat} {tE : Tr} {fE : Nat → AV} {Q : Ex → Tr → Mem → Prop} (hE : tE = trO 52 fE) (e2 : fE 2 = .p (some (n, 0))) (e3 : fE 3 = .p (some (n + 1, 0))) (e4 : fE 4 = .p (some (n + 2, 0))) (e5 : fE 5 = .p (some (n + 3, 0))) (e6 : fE 6 = .p (some (n + 4, 0))) :
    ∀ (k : Nat) (rest : List UInt8) (p : Int) (acc : List LineT) (H : Mem) (f : Nat → AV), LI ms n tE rest p acc H → rest.length ≤ k → 0 ≤ p → p + rest.length ≤ 200000 → f 0 = .yld (n + 9) → f 1 = .p (some (n + 6, 0)) → f 2 = .p (some (n + 5, 0)) → f 3 = .p (some (n + 7, 0)) →
    (∀ q H' f', linesG (piecesF k rest) p acc = .error q → LX ms n q H' → Ext n H H' → Q .rt (trO 52 f') H') →
    (∀ rest' p' acc' H' f', LI ms n tE rest' p' acc' H' → Ext n H H' → 0 ≤ p' → p' + rest'.length ≤ 200000 → linesG (piecesF k rest) p acc = linesG [rest'] p' acc' → f' 0 = .yld (n + 9) → f' 2 = .p (some (n + 5, 0)) → Q (.ex 2) (trO 52 f') H') → @W S false (.loop lp_strings_splitSeq_1_1) (trO 52 f) H ⟨Q⟩ := by
  intro k
  induction k with
  | zero =>
    intro rest p acc H f I hr hp hp2 f0 f1 f2 f3 k1 k2
    have : rest = [] := List.eq_nil_of_length_eq_zero (by omega)
    subst this
    rw [w_loop]
    unfold lp_strings_splitSeq_1_1
    simp (disch := first | omega | (simp only [List.length_cons, List.length_nil, true_and, and_true, nx_push, nx_put, nx_mark]; try omega)) only [go_sem, ↓reduceIte, Nat.reduceAdd, Nat.reduceMul, Nat.reduceSub, Int.reduceToNat, UInt8.reduceToNat, Nat.reduceLeDiff, Nat.reduceEqDiff, Nat.sub_zero, Int.add_zero, Int.zero_add, Nat.add_zero, Nat.zero_add, Nat.zero_mul, f0, f1, f2, f3, I.gs, I.gp, I.gv, ixOf_nil]
    exact atQ 52 rfl (k2 [] p acc H _ I (Ext.refl I.wf) hp hp2 rfl rfl rfl)
  | succ k ih =>
    intro rest p acc H f I hr hp hp2 f0 f1 f2 f3 k1 k2
    rw [w_loop]
    unfold lp_strings_splitSeq_1_1
    simp (disch := first | omega | (simp only [List.length_cons, List.length_nil, true_and, and_true, nx_push, nx_put, nx_mark]; try omega)) only [go_sem, ↓reduceIte, Nat.reduceAdd, Nat.reduceMul, Nat.reduceSub, Int.reduceToNat, UInt8.reduceToNat, Nat.reduceLeDiff, Nat.reduceEqDiff, Nat.sub_zero, Int.add_zero, Int.zero_add, Nat.add_zero, Nat.zero_add, Nat.zero_mul, f0, f1, f2, f3, I.gs, I.gp, I.gv]
    by_cases hc : ixOf rest 10 < 0
    · simp (disch := first | omega | (simp only [List.length_cons, List.length_nil, true_and, and_true, nx_push, nx_put, nx_mark]; try omega)) only [go_sem, ↓reduceIte, Nat.reduceAdd, Nat.reduceMul, Nat.reduceSub, Int.reduceToNat, UInt8.reduceToNat, Nat.reduceLeDiff, Nat.reduceEqDiff, Nat.sub_zero, Int.add_zero, Int.zero_add, Nat.add_zero, Nat.zero_add, Nat.zero_mul]
      exact atQ 52 rfl (k2 rest p acc H _ I (Ext.refl I.wf) hp hp2 (by rw [piecesF, if_pos hc]) rfl rfl)
    · have hlt := ixOf_lt rest 10 (by omega)
      obtain ⟨i, hi⟩ : ∃ i : Nat, ixOf rest 10 = i := ⟨(ixOf rest 10).toNat, by omega⟩
      rw [hi] at hlt hc
      simp only [Int.toNat_natCast] at hlt
      have hpc : piecesF (k + 1) rest = rest.take i :: piecesF k (rest.drop (i + 1)) := by rw [piecesF, hi, if_neg hc]; simp
      rw [hpc] at k1 k2
      have hfl : (rest.take i).length = i := by simp; omega
      simp (disch := first | omega | (simp only [List.length_cons, List.length_nil, true_and, and_true, nx_push, nx_put, nx_mark]; try omega)) only [go_sem, ↓reduceIte, Nat.reduceAdd, Nat.reduceMul, Nat.reduceSub, Int.reduceToNat, UInt8.reduceToNat, Nat.reduceLeDiff, Nat.reduceEqDiff, Nat.sub_zero, Int.add_zero, Int.zero_add, Nat.add_zero, Nat.zero_add, Nat.zero_mul, f0, f1, f2, f3, I.gs, I.gp, I.gv, hi]
      refine Lines_round I hE e2 e3 e4 e5 e6 (by omega) hp (by omega) (fun hb H' I' x => ?_) (fun hb H' X' x => ?_)
      · rw [hfl] at I'
        have hts : List.take (rest.length - ((i : Int) + 1).toNat) (List.drop ((i : Int) + 1).toNat rest) = rest.drop (i + 1) := by rw [show ((i : Int) + 1).toNat = i + 1 by omega]; exact List.take_of_length_le (by simp)
        simp (disch := first | omega | (simp only [List.length_cons, List.length_nil, true_and, and_true, nx_push, nx_put, nx_mark]; try omega)) only [go_sem, ↓reduceIte, Nat.reduceAdd, Nat.reduceMul, Nat.reduceSub, Int.reduceToNat, UInt8.reduceToNat, Nat.reduceLeDiff, Nat.reduceEqDiff, Nat.sub_zero, Int.add_zero, Int.zero_add, Nat.add_zero, Nat.zero_add, Nat.zero_mul, f0, f1, f2, f3, I'.gs, I'.gp, I'.gv, hi, hts]
        have I2 : LI ms n tE (rest.drop (i + 1)) (p + i + 1) (more1 acc (wordsF (trimEnd (rest.take i) [13]).length (trimEnd (rest.take i) [13]) p)) (H'.put (n + 5) (.mem [.s (rest.drop (i + 1))] 0 ty_string true 0)) := by
          obtain ⟨v, g, o⟩ := I'.g5
          have := I'.nx
          exact ⟨I'.wf.put (by omega) _, by simp (disch := first | omega | (simp only [List.length_cons, List.length_nil, true_and, and_true, nx_push, nx_put, nx_mark]; try omega)) only [go_sem, ↓reduceIte, Nat.reduceAdd, Nat.reduceMul, Nat.reduceSub, Int.reduceToNat, UInt8.reduceToNat, Nat.reduceLeDiff, Nat.reduceEqDiff, Nat.sub_zero, Int.add_zero, Int.zero_add, Nat.add_zero, Nat.zero_add, Nat.zero_mul]; exact I'.nx, by simp (disch := first | omega | (simp only [List.length_cons, List.length_nil, true_and, and_true, nx_push, nx_put, nx_mark]; try omega)) only [go_sem, ↓reduceIte, Nat.reduceAdd, Nat.reduceMul, Nat.reduceSub, Int.reduceToNat, UInt8.reduceToNat, Nat.reduceLeDiff, Nat.reduceEqDiff, Nat.sub_zero, Int.add_zero, Int.zero_add, Nat.add_zero, Nat.zero_add, Nat.zero_mul]; exact I'.marks, by simp (disch := first | omega | (simp only [List.length_cons, List.length_nil, true_and, and_true, nx_push, nx_put, nx_mark]; try omega)) only [go_sem, ↓reduceIte, Nat.reduceAdd, Nat.reduceMul, Nat.reduceSub, Int.reduceToNat, UInt8.reduceToNat, Nat.reduceLeDiff, Nat.reduceEqDiff, Nat.sub_zero, Int.add_zero, Int.zero_add, Nat.add_zero, Nat.zero_add, Nat.zero_mul, I'.g2], by simp (disch := first | omega | (simp only [List.length_cons, List.length_nil, true_and, and_true, nx_push, nx_put, nx_mark]; try omega)) only [go_sem, ↓reduceIte, Nat.reduceAdd, Nat.reduceMul, Nat.reduceSub, Int.reduceToNat, UInt8.reduceToNat, Nat.reduceLeDiff, Nat.reduceEqDiff, Nat.sub_zero, Int.add_zero, Int.zero_add, Nat.add_zero, Nat.zero_add, Nat.zero_mul, I'.g3], by simp (disch := first | omega | (simp only [List.length_cons, List.length_nil, true_and, and_true, nx_push, nx_put, nx_mark]; try omega)) only [go_sem, ↓reduceIte, Nat.reduceAdd, Nat.reduceMul, Nat.reduceSub, Int.reduceToNat, UInt8.reduceToNat, Nat.reduceLeDiff, Nat.reduceEqDiff, Nat.sub_zero, Int.add_zero, Int.zero_add, Nat.add_zero, Nat.zero_add, Nat.zero_mul, I'.g4], ⟨v, by simp (disch := first | omega | (simp only [List.length_cons, List.length_nil, true_and, and_true, nx_push, nx_put, nx_mark]; try omega)) only [go_sem, ↓reduceIte, Nat.reduceAdd, Nat.reduceMul, Nat.reduceSub, Int.reduceToNat, UInt8.reduceToNat, Nat.reduceLeDiff, Nat.reduceEqDiff, Nat.sub_zero, Int.add_zero, Int.zero_add, Nat.add_zero, Nat.zero_add, Nat.zero_mul, g], o.put (by omega)⟩, by simp (disch := first | omega | (simp only [List.length_cons, List.length_nil, true_and, and_true, nx_push, nx_put, nx_mark]; try omega)) only [go_sem, ↓reduceIte, Nat.reduceAdd, Nat.reduceMul, Nat.reduceSub, Int.reduceToNat, UInt8.reduceToNat, Nat.reduceLeDiff, Nat.reduceEqDiff, Nat.sub_zero, Int.add_zero, Int.zero_add, Nat.add_zero, Nat.zero_add, Nat.zero_mul, I'.g6], by simp (disch := first | omega | (simp only [List.length_cons, List.length_nil, true_and, and_true, nx_push, nx_put, nx_mark]; try omega)) only [go_sem, ↓reduceIte, Nat.reduceAdd, Nat.reduceMul, Nat.reduceSub, Int.reduceToNat, UInt8.reduceToNat, Nat.reduceLeDiff, Nat.reduceEqDiff, Nat.sub_zero, Int.add_zero, Int.zero_add, Nat.add_zero, Nat.zero_add, Nat.zero_mul], by simp (disch := first | omega | (simp only [List.length_cons, List.length_nil, true_and, and_true, nx_push, nx_put, nx_mark]; try omega)) only [go_sem, ↓reduceIte, Nat.reduceAdd, Nat.reduceMul, Nat.reduceSub, Int.reduceToNat, UInt8.reduceToNat, Nat.reduceLeDiff, Nat.reduceEqDiff, Nat.sub_zero, Int.add_zero, Int.zero_add, Nat.add_zero, Nat.zero_add, Nat.zero_mul, I'.gp], by simp (disch := first | omega | (simp only [List.length_cons, List.length_nil, true_and, and_true, nx_push, nx_put, nx_mark]; try omega)) only [go_sem, ↓reduceIte, Nat.reduceAdd, Nat.reduceMul, Nat.reduceSub, Int.reduceToNat, UInt8.reduceToNat, Nat.reduceLeDiff, Nat.reduceEqDiff, Nat.sub_zero, Int.add_zero, Int.zero_add, Nat.add_zero, Nat.zero_add, Nat.zero_mul, I'.gv], by simp (disch := first | omega | (simp only [List.length_cons, List.length_nil, true_and, and_true, nx_push, nx_put, nx_mark]; try omega)) only [go_sem, ↓reduceIte, Nat.reduceAdd, Nat.reduceMul, Nat.reduceSub, Int.reduceToNat, UInt8.reduceToNat, Nat.reduceLeDiff, Nat.reduceEqDiff, Nat.sub_zero, Int.add_zero, Int.zero_add, Nat.add_zero, Nat.zero_add, Nat.zero_mul, I'.gd], by simp (disch := first | omega | (simp only [List.length_cons, List.length_nil, true_and, and_true, nx_push, nx_put, nx_mark]; try omega)) only [go_sem, ↓reduceIte, Nat.reduceAdd, Nat.reduceMul, Nat.reduceSub, Int.reduceToNat, UInt8.reduceToNat, Nat.reduceLeDiff, Nat.reduceEqDiff, Nat.sub_zero, Int.add_zero, Int.zero_add, Nat.add_zero, Nat.zero_add, Nat.zero_mul, I'.gl], I'.na⟩
        have x2 : Ext n H (H'.put (n + 5) (.mem [.s (rest.drop (i + 1))] 0 ty_string true 0)) := x.put (by omega) (by have := I'.nx; omega) _
        have lg : linesG (rest.take i :: piecesF k (rest.drop (i + 1))) p acc = linesG (piecesF k (rest.drop (i + 1))) (p + i + 1) (more1 acc (wordsF (trimEnd (rest.take i) [13]).length (trimEnd (rest.take i) [13]) p)) := by
          rw [linesG, if_neg (by omega), hfl]
        rw [lg] at k1 k2
        have hsub : (rest.drop (i + 1)).length = rest.length - (i + 1) := by simp
        refine atW 52 rfl (ih (rest.drop (i + 1)) (p + i + 1) _ _ _ I2 (by omega) (by omega) (by omega) rfl rfl rfl rfl (fun q H2 f' h1 h2 h3 => k1 q H2 f' h1 h2 (x2.trans h3 (Nat.le_refl _))) (fun r' p' a' H2 f' h1 h2 => k2 r' p' a' H2 f' h1 (x2.trans h2 (Nat.le_refl _))))
      · simp (disch := first | omega | (simp only [List.length_cons, List.length_nil, true_and, and_true, nx_push, nx_put, nx_mark]; try omega)) only [go_sem, ↓reduceIte, Nat.reduceAdd, Nat.reduceMul, Nat.reduceSub, Int.reduceToNat, UInt8.reduceToNat, Nat.reduceLeDiff, Nat.reduceEqDiff, Nat.sub_zero, Int.add_zero, Int.zero_add, Nat.add_zero, Nat.zero_add, Nat.zero_mul]
        exact atQ 52 rfl (k1 _ H' _ (by rw [linesG, if_pos hb]) X' x)
/-- The iterator, over the whole text. -/
theorem iter_run {n : Nat} {tE : Tr} {fE : Nat → AV} {s : List UInt8} (hE : tE = trO 52 fE) (e2 : fE 2 = .p (some (n, 0))) (e3 : fE 3 = .p (some (n + 1, 0))) (e4 : fE 4 = .p (some (n + 2, 0))) (e5 : fE 5 = .p (some (n + 3, 0))) (e6 : fE 6 = .p (some (n + 4, 0)))
    (I : LI [] n tE s 0 [] (H.mark [])) (hs : s.length ≤ 200000)
    (k1 : ∀ q H', linesG (piecesF s.length s) 0 [] = .error q → LX H.marks n q H' → Ext n H H' → K (.tup []) H')
    (k2 : ∀ acc r p H', linesG (piecesF s.length s) 0 [] = .ok acc → LI H.marks n tE r p acc H' → Ext n H H' → K (.tup []) H') :
    @R S (.b n_strings_splitSeq_1) [.yld (n + 9), .p (some (n + 6, 0)), .p (some (n + 5, 0)), .p (some (n + 7, 0))] H ⟨K⟩ := by
  refine run_b2 rfl rfl ?_
  unfold bd_strings_splitSeq_1
  simp (disch := first | omega | (simp only [List.length_cons, List.length_nil, true_and, and_true, nx_push, nx_put, nx_mark]; try omega)) only [go_sem, ↓reduceIte, Nat.reduceAdd, Nat.reduceMul, Nat.reduceSub, Int.reduceToNat, UInt8.reduceToNat, Nat.reduceLeDiff, Nat.reduceEqDiff, Nat.sub_zero, Int.add_zero, Int.zero_add, Nat.add_zero, Nat.zero_add, Nat.zero_mul, I.gp, I.gs, I.gv]
  have lx : ∀ q H', LX [] n q H' → LX H.marks n q (H'.mark H.marks) := fun q H' h => ⟨h.wf, h.nx, rfl, h.g2, h.g3, h.g4, h.gd, h.gl⟩
  have li : ∀ r p a H', LI [] n tE r p a H' → LI H.marks n tE r p a (H'.mark H.marks) := fun r p a H' h => ⟨h.wf, h.nx, rfl, h.g2, h.g3, h.g4, h.g5, h.g6, h.gs, h.gp, h.gv, h.gd, h.gl, h.na⟩
  refine atW 52 rfl (iter_loop hE e2 e3 e4 e5 e6 s.length s 0 [] _ _ I (Nat.le_refl _) (by omega) (by omega) rfl rfl rfl rfl (fun q H' f' h1 h2 h3 => ?_) (fun r p acc H' f' I' x hp hp2 hl f0 f2 => ?_))
  · have hm := h2.marks
    simp (disch := first | omega | (simp only [List.length_cons, List.length_nil, true_and, and_true, nx_push, nx_put, nx_mark]; try omega)) only [go_sem, ↓reduceIte, Nat.reduceAdd, Nat.reduceMul, Nat.reduceSub, Int.reduceToNat, UInt8.reduceToNat, Nat.reduceLeDiff, Nat.reduceEqDiff, Nat.sub_zero, Int.add_zero, Int.zero_add, Nat.add_zero, Nat.zero_add, Nat.zero_mul, hm]
    exact k1 q _ h1 (lx q H' h2) (Ext.mark h3)
  · simp (disch := first | omega | (simp only [List.length_cons, List.length_nil, true_and, and_true, nx_push, nx_put, nx_mark]; try omega)) only [go_sem, ↓reduceIte, Nat.reduceAdd, Nat.reduceMul, Nat.reduceSub, Int.reduceToNat, UInt8.reduceToNat, Nat.reduceLeDiff, Nat.reduceEqDiff, Nat.sub_zero, Int.add_zero, Int.zero_add, Nat.add_zero, Nat.zero_add, Nat.zero_mul, f0, f2, I'.gs]
    refine Lines_round I' hE e2 e3 e4 e5 e6 (by omega) hp (by omega) (fun hb H2 I2 x2 => ?_) (fun hb H2 X2 x2 => ?_)
    · have hm := I2.marks
      simp (disch := first | omega | (simp only [List.length_cons, List.length_nil, true_and, and_true, nx_push, nx_put, nx_mark]; try omega)) only [go_sem, ↓reduceIte, Nat.reduceAdd, Nat.reduceMul, Nat.reduceSub, Int.reduceToNat, UInt8.reduceToNat, Nat.reduceLeDiff, Nat.reduceEqDiff, Nat.sub_zero, Int.add_zero, Int.zero_add, Nat.add_zero, Nat.zero_add, Nat.zero_mul, hm]
      exact k2 _ _ _ _ (by rw [hl, linesG, if_neg (by omega), linesG]) (li _ _ _ _ I2) (Ext.mark (x.trans x2 (Nat.le_refl _)))
    · have hm := X2.marks
      simp (disch := first | omega | (simp only [List.length_cons, List.length_nil, true_and, and_true, nx_push, nx_put, nx_mark]; try omega)) only [go_sem, ↓reduceIte, Nat.reduceAdd, Nat.reduceMul, Nat.reduceSub, Int.reduceToNat, UInt8.reduceToNat, Nat.reduceLeDiff, Nat.reduceEqDiff, Nat.sub_zero, Int.add_zero, Int.zero_add, Nat.add_zero, Nat.zero_add, Nat.zero_mul, hm]
      exact k1 _ _ (by rw [hl, linesG, if_pos hb]) (lx _ _ X2) (Ext.mark (x.trans x2 (Nat.le_refl _)))
/-- A text's lines; where it is wrong; how. -/
def linesOf (s : List UInt8) : List LineT × Int × Int := if 200000 < s.length ∨ 5000 < cntOf s 10 then ([], 0, 8) else match linesG (piecesF s.length s) 0 [] with
  | .ok l => (l, 0, 0)
  | .error q => ([], q, 7)
theorem li_Lines {s : List UInt8} (hs : s.length ≤ 1000000) (hw : Wf H) (h : ∀ v H', Ext H.next H H' → SlR 2 Rline (sn H.next H') v (linesOf s).1 → K (.tup [v, .i .i64 (linesOf s).2.1, .i .i64 (linesOf s).2.2]) H') : @R S (.f n_line_Lines) [.s s] H ⟨K⟩ := by
  refine run_fn2 rfl rfl ?_
  unfold bd_line_Lines
  have big : (200000 < s.length ∨ 5000 < cntOf s 10) → ∀ o1 o2 o3 o4 o5 o6, K (.tup [.nsl, .i .i64 0, .i .i64 8]) ((((((H.push o1).push o2).push o3).put H.next o4).put (H.next + 1) o5).put (H.next + 1 + 1) o6) := fun hb o1 o2 o3 o4 o5 o6 => by
    have e : linesOf s = ([], 0, 8) := if_pos hb
    rw [e] at h
    refine h _ _ ((((((Ext.refl hw (n := H.next)).push _ (Nat.le_refl _)).push _ ?_).push _ ?_).put ?_ ?_ _).put ?_ ?_ _ |>.put ?_ ?_ _) SlR.nil <;> first | omega | (simp only [nx_push, nx_put, nx_mark]; omega)
  by_cases h1 : 200000 < s.length
  · simp (disch := first | omega | (simp only [List.length_cons, List.length_nil, true_and, and_true, nx_push, nx_put, nx_mark]; try omega)) only [go_sem, ↓reduceIte, Nat.reduceAdd, Nat.reduceMul, Nat.reduceSub, Int.reduceToNat, UInt8.reduceToNat, Nat.reduceLeDiff, Nat.reduceEqDiff, Nat.sub_zero, Int.add_zero, Int.zero_add, Nat.add_zero, Nat.zero_add, Nat.zero_mul]
    exact big (.inl h1) _ _ _ _ _ _
  · by_cases h2 : 5000 < cntOf s 10
    · simp (disch := first | omega | (simp only [List.length_cons, List.length_nil, true_and, and_true, nx_push, nx_put, nx_mark]; try omega)) only [go_sem, ↓reduceIte, Nat.reduceAdd, Nat.reduceMul, Nat.reduceSub, Int.reduceToNat, UInt8.reduceToNat, Nat.reduceLeDiff, Nat.reduceEqDiff, Nat.sub_zero, Int.add_zero, Int.zero_add, Nat.add_zero, Nat.zero_add, Nat.zero_mul]
      exact big (.inr h2) _ _ _ _ _ _
    · simp (disch := first | omega | (simp only [List.length_cons, List.length_nil, true_and, and_true, nx_push, nx_put, nx_mark]; try omega)) only [go_sem, ↓reduceIte, Nat.reduceAdd, Nat.reduceMul, Nat.reduceSub, Int.reduceToNat, UInt8.reduceToNat, Nat.reduceLeDiff, Nat.reduceEqDiff, Nat.sub_zero, Int.add_zero, Int.zero_add, Nat.add_zero, Nat.zero_add, Nat.zero_mul]
      have hl : linesOf s = match linesG (piecesF s.length s) 0 [] with
          | .ok l => (l, 0, 0)
          | .error q => ([], q, 7) := if_neg (by omega)
      clear big
      refine atW 52 rfl ?_
      generalize hHc : ((((((((((H.mark []).push (AO.mem [AV.nsl] 0 ty__api_Line true 0)).push (AO.mem [AV.i IntKind.i64 0] 0 ty_int true 0)).push (AO.mem [AV.i IntKind.i64 0] 0 ty_api_Errno true 0)).push (AO.mem [AV.nsl] 0 ty__api_Line true 0)).push (AO.mem [AV.i IntKind.i64 0] 0 ty_int true 0)).put (H.next + 1 + 1 + 1 + 1) (AO.mem [AV.i IntKind.i64 0] 0 ty_int true 0)).push (AO.mem [AV.s s] 0 ty_string true 0)).push (AO.mem [AV.s [10]] 0 ty_string true 0)).push (AO.mem [AV.i IntKind.i64 0] 0 ty_int true 0)) = Hc
      have cn : Hc.next = H.next + 8 := by rw [← hHc]; rfl
      have cm : Hc.marks = [] := by rw [← hHc]; rfl
      have ce : Ext H.next (H.mark []) Hc := by
        rw [← hHc]
        refine (((((((((Ext.refl (H := H.mark []) hw (n := H.next)).push _ (Nat.le_refl _)).push _ ?_).push _ ?_).push _ ?_).push _ ?_).put ?_ ?_ _).push _ ?_).push _ ?_).push _ ?_ <;> first | omega | (simp only [nx_push, nx_put, nx_mark]; omega)
      have g2 : Hc.get H.next = .mem [.nsl] 0 ty__api_Line true 0 := by rw [← hHc]; simp (disch := first | omega | (simp only [List.length_cons, List.length_nil, true_and, and_true, nx_push, nx_put, nx_mark]; try omega)) only [go_sem, ↓reduceIte, Nat.reduceAdd, Nat.reduceMul, Nat.reduceSub, Int.reduceToNat, UInt8.reduceToNat, Nat.reduceLeDiff, Nat.reduceEqDiff, Nat.sub_zero, Int.add_zero, Int.zero_add, Nat.add_zero, Nat.zero_add, Nat.zero_mul]
      have g3 : Hc.get (H.next + 1) = .mem [.i .i64 0] 0 ty_int true 0 := by rw [← hHc]; simp (disch := first | omega | (simp only [List.length_cons, List.length_nil, true_and, and_true, nx_push, nx_put, nx_mark]; try omega)) only [go_sem, ↓reduceIte, Nat.reduceAdd, Nat.reduceMul, Nat.reduceSub, Int.reduceToNat, UInt8.reduceToNat, Nat.reduceLeDiff, Nat.reduceEqDiff, Nat.sub_zero, Int.add_zero, Int.zero_add, Nat.add_zero, Nat.zero_add, Nat.zero_mul]
      have g4 : Hc.get (H.next + 2) = .mem [.i .i64 0] 0 ty_api_Errno true 0 := by rw [← hHc]; simp (disch := first | omega | (simp only [List.length_cons, List.length_nil, true_and, and_true, nx_push, nx_put, nx_mark]; try omega)) only [go_sem, ↓reduceIte, Nat.reduceAdd, Nat.reduceMul, Nat.reduceSub, Int.reduceToNat, UInt8.reduceToNat, Nat.reduceLeDiff, Nat.reduceEqDiff, Nat.sub_zero, Int.add_zero, Int.zero_add, Nat.add_zero, Nat.zero_add, Nat.zero_mul]
      have g5 : Hc.get (H.next + 3) = .mem [.nsl] 0 ty__api_Line true 0 := by rw [← hHc]; simp (disch := first | omega | (simp only [List.length_cons, List.length_nil, true_and, and_true, nx_push, nx_put, nx_mark]; try omega)) only [go_sem, ↓reduceIte, Nat.reduceAdd, Nat.reduceMul, Nat.reduceSub, Int.reduceToNat, UInt8.reduceToNat, Nat.reduceLeDiff, Nat.reduceEqDiff, Nat.sub_zero, Int.add_zero, Int.zero_add, Nat.add_zero, Nat.zero_add, Nat.zero_mul]
      have g6 : Hc.get (H.next + 4) = .mem [.i .i64 0] 0 ty_int true 0 := by rw [← hHc]; simp (disch := first | omega | (simp only [List.length_cons, List.length_nil, true_and, and_true, nx_push, nx_put, nx_mark]; try omega)) only [go_sem, ↓reduceIte, Nat.reduceAdd, Nat.reduceMul, Nat.reduceSub, Int.reduceToNat, UInt8.reduceToNat, Nat.reduceLeDiff, Nat.reduceEqDiff, Nat.sub_zero, Int.add_zero, Int.zero_add, Nat.add_zero, Nat.zero_add, Nat.zero_mul]
      have gs : Hc.get (H.next + 5) = .mem [.s s] 0 ty_string true 0 := by rw [← hHc]; simp (disch := first | omega | (simp only [List.length_cons, List.length_nil, true_and, and_true, nx_push, nx_put, nx_mark]; try omega)) only [go_sem, ↓reduceIte, Nat.reduceAdd, Nat.reduceMul, Nat.reduceSub, Int.reduceToNat, UInt8.reduceToNat, Nat.reduceLeDiff, Nat.reduceEqDiff, Nat.sub_zero, Int.add_zero, Int.zero_add, Nat.add_zero, Nat.zero_add, Nat.zero_mul]
      have gp : Hc.get (H.next + 6) = .mem [.s [10]] 0 ty_string true 0 := by rw [← hHc]; simp (disch := first | omega | (simp only [List.length_cons, List.length_nil, true_and, and_true, nx_push, nx_put, nx_mark]; try omega)) only [go_sem, ↓reduceIte, Nat.reduceAdd, Nat.reduceMul, Nat.reduceSub, Int.reduceToNat, UInt8.reduceToNat, Nat.reduceLeDiff, Nat.reduceEqDiff, Nat.sub_zero, Int.add_zero, Int.zero_add, Nat.add_zero, Nat.zero_add, Nat.zero_mul]
      have gv : Hc.get (H.next + 7) = .mem [.i .i64 0] 0 ty_int true 0 := by rw [← hHc]; simp (disch := first | omega | (simp only [List.length_cons, List.length_nil, true_and, and_true, nx_push, nx_put, nx_mark]; try omega)) only [go_sem, ↓reduceIte, Nat.reduceAdd, Nat.reduceMul, Nat.reduceSub, Int.reduceToNat, UInt8.reduceToNat, Nat.reduceLeDiff, Nat.reduceEqDiff, Nat.sub_zero, Int.add_zero, Int.zero_add, Nat.add_zero, Nat.zero_add, Nat.zero_mul]
      clear hHc
      generalize hfE : (fun k : Nat => Tr.get _ (pth k)) = fE
      have e2 : fE 2 = .p (some (H.next, 0)) := by rw [← hfE]; rfl
      have e3 : fE 3 = .p (some (H.next + 1, 0)) := by rw [← hfE]; rfl
      have e4 : fE 4 = .p (some (H.next + 2, 0)) := by rw [← hfE]; rfl
      have e5 : fE 5 = .p (some (H.next + 3, 0)) := by rw [← hfE]; rfl
      have e6 : fE 6 = .p (some (H.next + 4, 0)) := by rw [← hfE]; rfl
      have e20 : fE 20 = .fn n_strings_splitSeq_1 [] [.p (some (H.next + 6, 0)), .p (some (H.next + 5, 0)), .p (some (H.next + 7, 0))] := by rw [← hfE]; rfl
      clear hfE
      refine w_rfun (show opd (trO 52 fE) x20 = .fn n_strings_splitSeq_1 [] [.p (some (H.next + 6, 0)), .p (some (H.next + 5, 0)), .p (some (H.next + 7, 0))] by simp only [go_sem, e20]) ?_
      rw [cn, cm]
      have wc := ce.wf
      have ce1 : Ext H.next (H.mark []) ((((Hc.push .defs).mark [H.next + 8]).push (.loop .ready none (trO 52 fE) [p21] as_line_Lines_0 lp_line_Lines_0)).mark []) := by
        have := (ce.push .defs (by omega)).push (.loop .ready none (trO 52 fE) [p21] as_line_Lines_0 lp_line_Lines_0) (by simp only [nx_push]; omega)
        exact ⟨this.next, rfl, this.get, this.wf⟩
      refine iter_run (s := s) (n := H.next) (tE := trO 52 fE) rfl e2 e3 e4 e5 e6 ⟨ce1.wf, by simp only [nx_push, nx_put, nx_mark]; omega, rfl, ?_, ?_, ?_, ⟨.nsl, ?_, SlO.nil⟩, ?_, ?_, ?_, ?_, ?_, ?_, by simp⟩ (by omega) (fun q H' hq X x => ?_) (fun acc r p H' hq I x => ?_)
      iterate 10
        rotate_left
      · obtain ⟨t, ps, a, b, gl⟩ := X.gl
        refine ⟨.done, some .rt, t, ps, a, b, gl, by simp, ?_⟩
        have x0 : Ext H.next (H.mark []) (H'.mark []) := ce1.trans ⟨x.next, rfl, x.get, x.wf⟩ (Nat.le_refl _)
        have hx := X.nx
        have hm : H'.marks = [H.next + 8] := X.marks
        simp (disch := first | omega | (simp only [List.length_cons, List.length_nil, true_and, and_true, nx_push, nx_put, nx_mark]; try omega)) only [go_sem, ↓reduceIte, Nat.reduceAdd, Nat.reduceMul, Nat.reduceSub, Int.reduceToNat, UInt8.reduceToNat, Nat.reduceLeDiff, Nat.reduceEqDiff, Nat.sub_zero, Int.add_zero, Int.zero_add, Nat.add_zero, Nat.zero_add, Nat.zero_mul, hm, X.g2, X.g3, X.g4, X.gd, e2, e3, e4, e5]
        have e : linesOf s = ([], q, 7) := by rw [hl, hq]
        rw [e] at h
        refine h _ _ ⟨?_, ?_, ?_, ?_⟩ SlR.nil
        · simp only [nx_put, nx_mark]; omega
        · rfl
        · intro id hd
          simp only [Mem.get_put, Mem.get_mark]
          rw [if_neg (by omega), if_neg (by omega)]
          exact x0.get id hd
        · exact (x0.wf.kill _).kill _
      · refine ⟨.ready, none, _, _, _, _, I.gl, by simp, ?_⟩
        have x0 : Ext H.next (H.mark []) (H'.mark []) := ce1.trans ⟨x.next, rfl, x.get, x.wf⟩ (Nat.le_refl _)
        have hx := I.nx
        have hm : H'.marks = [H.next + 8] := I.marks
        obtain ⟨v, g5', o⟩ := I.g5
        have v1 := o.one
        have vc := cells_of_one v1
        simp (disch := first | omega | (simp only [List.length_cons, List.length_nil, true_and, and_true, nx_push, nx_put, nx_mark]; try omega)) only [go_sem, ↓reduceIte, Nat.reduceAdd, Nat.reduceMul, Nat.reduceSub, Int.reduceToNat, UInt8.reduceToNat, Nat.reduceLeDiff, Nat.reduceEqDiff, Nat.sub_zero, Int.add_zero, Int.zero_add, Nat.add_zero, Nat.zero_add, Nat.zero_mul, hm, I.g2, I.g3, I.g4, I.gd, g5', v1, vc, e2, e3, e4, e5]
        have e : linesOf s = (acc, 0, 0) := by rw [hl, hq]
        rw [e] at h
        refine h _ _ ⟨?_, ?_, ?_, ?_⟩ ((((((((o.mark (l := H.marks)).put (by omega)).put (by omega)).put (by omega)).put (by omega)).put (by omega)).down Rline_mono (by omega)).read Rline_mono)
        · simp only [nx_put, nx_mark]; omega
        · rfl
        · intro id hd
          simp only [Mem.get_put, Mem.get_mark]
          rw [if_neg (by omega), if_neg (by omega), if_neg (by omega), if_neg (by omega), if_neg (by omega)]
          exact x0.get id hd
        · refine ((((x0.wf.kill _).put ?_ _).put ?_ _).put ?_ _).kill _ <;> (simp only [nx_put, nx_mark]; omega)
      all_goals simp (disch := first | omega | (simp only [List.length_cons, List.length_nil, true_and, and_true, nx_push, nx_put, nx_mark]; try omega)) only [go_sem, ↓reduceIte, Nat.reduceAdd, Nat.reduceMul, Nat.reduceSub, Int.reduceToNat, UInt8.reduceToNat, Nat.reduceLeDiff, Nat.reduceEqDiff, Nat.sub_zero, Int.add_zero, Int.zero_add, Nat.add_zero, Nat.zero_add, Nat.zero_mul, g2, g3, g4, g5, g6, gs, gp, gv]
end Go.Fw.Ro
end
section
/- Numbers; forms; a line's fact. -/
namespace Go.Fw.Ro
open Go Go.Fw Go.Fw.Sys
set_option maxRecDepth 100000
variable {H : Mem} {K : AV → Mem → Prop}
def isD (c : UInt8) : Bool := decide (48 ≤ c.toNat) && decide (c.toNat ≤ 57)
/-- The first k digits' marks. -/
def asc (k : Nat) : List AV := (List.range 256).map fun i => .b (decide (48 ≤ i) && decide (i < 48 + k))
theorem asc_len (k : Nat) : (asc k).length = 256 := by simp [asc]
theorem asc_get (k i : Nat) (h : i < 256) : (asc k)[i]? = some (.b (decide (48 ≤ i) && decide (i < 48 + k))) := by simp [asc, h]
theorem asc_all (k : Nat) : (asc k).all AV.one = true := by simp [asc, AV.one]
theorem asc_take (k : Nat) : (asc k).take 256 = asc k := List.take_of_length_le (by rw [asc_len]; exact Nat.le_refl _)
theorem asc_drop (k : Nat) : (asc k).drop 256 = [] := List.drop_eq_nil_of_le (by rw [asc_len]; exact Nat.le_refl _)
theorem contains_run {id t : Nat} {c : UInt8} (hg : H.get id = .mem (asc 10) 1 t true 0) : @R S (.f n_strings_asciiSet_contains) [.p (some (id, 0)), .i .u8 c.toNat] H ⟨K⟩ ↔ K (.b (isD c)) H := by
  have hc := c.toNat_lt
  refine run_iff fun K h => ?_
  refine run_fn2 rfl rfl ?_
  unfold bd_strings_asciiSet_contains
  have e : (asc 10)[c.toNat]? = some (.b (isD c)) := by rw [asc_get _ _ hc]; congr 2; unfold isD; congr 1; simp; omega
  simp (disch := first | omega | (simp only [List.length_cons, List.length_nil, true_and, and_true, nx_push, nx_put, nx_mark]; try omega)) only [go_sem, ↓reduceIte, Nat.reduceAdd, Nat.reduceMul, Nat.reduceSub, Int.reduceToNat, UInt8.reduceToNat, Nat.reduceLeDiff, Nat.reduceEqDiff, Nat.sub_zero, Int.add_zero, Int.zero_add, Nat.add_zero, Nat.zero_add, Nat.zero_mul, hg, e, Nat.mul_one]
  exact h
def trR (s : List UInt8) : List UInt8 := (s.reverse.dropWhile isD).reverse
def trL (s : List UInt8) : List UInt8 := s.dropWhile isD
theorem trR_nil : trR [] = [] := rfl
theorem trR_app (l : List UInt8) (c : UInt8) : trR (l ++ [c]) = if isD c = true then trR l else l ++ [c] := by
  unfold trR; simp only [List.reverse_append, List.reverse_cons, List.reverse_nil, List.nil_append, List.cons_append, List.dropWhile_cons]
  split <;> simp
theorem trR_loop {id t : Nat} {Q : Ex → Tr → Mem → Prop} (hg : H.get id = .mem (asc 10) 1 t true 0) : ∀ (k : Nat) (s : List UInt8) (f : Nat → AV), s.length ≤ k → s.length ≤ 1000000 → f 0 = .s s → f 1 = .p (some (id, 0)) →
    (∀ f', f' 0 = .s (trR s) → Q (.ex 0) (trO 22 f') H) → @W S false (.loop lp_strings_trimRightASCII_0) (trO 22 f) H ⟨Q⟩ := by
  intro k
  induction k with
  | zero =>
    intro s f h0 h1 f0 f1 q
    have : s = [] := List.eq_nil_of_length_eq_zero (by omega)
    subst this
    rw [w_loop]
    unfold lp_strings_trimRightASCII_0
    simp (disch := first | omega | (simp only [List.length_cons, List.length_nil, true_and, and_true, nx_push, nx_put, nx_mark]; try omega)) only [go_sem, ↓reduceIte, Nat.reduceAdd, Nat.reduceMul, Nat.reduceSub, Int.reduceToNat, UInt8.reduceToNat, Nat.reduceLeDiff, Nat.reduceEqDiff, Nat.sub_zero, Int.add_zero, Int.zero_add, Nat.add_zero, Nat.zero_add, Nat.zero_mul, f0, f1]
    exact atQ 22 rfl (q _ rfl)
  | succ k ih =>
    intro s f h0 h1 f0 f1 q
    rcases List.eq_nil_or_concat s with hs | ⟨l, c, hs⟩
    · subst hs
      rw [w_loop]
      unfold lp_strings_trimRightASCII_0
      simp (disch := first | omega | (simp only [List.length_cons, List.length_nil, true_and, and_true, nx_push, nx_put, nx_mark]; try omega)) only [go_sem, ↓reduceIte, Nat.reduceAdd, Nat.reduceMul, Nat.reduceSub, Int.reduceToNat, UInt8.reduceToNat, Nat.reduceLeDiff, Nat.reduceEqDiff, Nat.sub_zero, Int.add_zero, Int.zero_add, Nat.add_zero, Nat.zero_add, Nat.zero_mul, f0, f1]
      exact atQ 22 rfl (q _ rfl)
    · have hl : s.length = l.length + 1 := by rw [hs]; simp
      have e1 : ((s.length : Int) - 1).toNat = l.length := by omega
      have e2 : s[l.length]? = some c := by rw [hs]; simp
      have e3 : s.take l.length = l := by rw [hs]; simp
      have e4 : (trR s) = if isD c = true then trR l else s := by rw [hs]; simpa using trR_app l c
      have hcon := fun K => contains_run (K := K) (c := c) hg
      rw [w_loop]
      unfold lp_strings_trimRightASCII_0
      simp (disch := first | omega | (simp only [List.length_cons, List.length_nil, true_and, and_true, nx_push, nx_put, nx_mark]; try omega)) only [go_sem, ↓reduceIte, Nat.reduceAdd, Nat.reduceMul, Nat.reduceSub, Int.reduceToNat, UInt8.reduceToNat, Nat.reduceLeDiff, Nat.reduceEqDiff, Nat.sub_zero, Int.add_zero, Int.zero_add, Nat.add_zero, Nat.zero_add, Nat.zero_mul, f0, f1, e1, e2, hcon]
      cases hd : isD c with
      | true =>
        simp (disch := first | omega | (simp only [List.length_cons, List.length_nil, true_and, and_true, nx_push, nx_put, nx_mark]; try omega)) only [go_sem, ↓reduceIte, Nat.reduceAdd, Nat.reduceMul, Nat.reduceSub, Int.reduceToNat, UInt8.reduceToNat, Nat.reduceLeDiff, Nat.reduceEqDiff, Nat.sub_zero, Int.add_zero, Int.zero_add, Nat.add_zero, Nat.zero_add, Nat.zero_mul, f0, f1, e1, e2, e3]
        rw [e4, if_pos hd] at q
        refine atW 22 rfl (ih l _ (by omega) (by omega) rfl rfl q)
      | false =>
        simp (disch := first | omega | (simp only [List.length_cons, List.length_nil, true_and, and_true, nx_push, nx_put, nx_mark]; try omega)) only [go_sem, ↓reduceIte, Nat.reduceAdd, Nat.reduceMul, Nat.reduceSub, Int.reduceToNat, UInt8.reduceToNat, Nat.reduceLeDiff, Nat.reduceEqDiff, Nat.sub_zero, Int.add_zero, Int.zero_add, Nat.add_zero, Nat.zero_add, Nat.zero_mul]
        rw [e4, hd] at q
        exact atQ 22 rfl (q _ rfl)
theorem trL_loop {id t : Nat} {Q : Ex → Tr → Mem → Prop} (hg : H.get id = .mem (asc 10) 1 t true 0) : ∀ (s : List UInt8) (f : Nat → AV), s.length ≤ 1000000 → f 0 = .s s → f 1 = .p (some (id, 0)) →
    (∀ f', f' 0 = .s (trL s) → Q (.ex 0) (trO 16 f') H) → @W S false (.loop lp_strings_trimLeftASCII_0) (trO 16 f) H ⟨Q⟩ := by
  intro s
  induction s with
  | nil =>
    intro f h1 f0 f1 q
    rw [w_loop]
    unfold lp_strings_trimLeftASCII_0
    simp (disch := first | omega | (simp only [List.length_cons, List.length_nil, true_and, and_true, nx_push, nx_put, nx_mark]; try omega)) only [go_sem, ↓reduceIte, Nat.reduceAdd, Nat.reduceMul, Nat.reduceSub, Int.reduceToNat, UInt8.reduceToNat, Nat.reduceLeDiff, Nat.reduceEqDiff, Nat.sub_zero, Int.add_zero, Int.zero_add, Nat.add_zero, Nat.zero_add, Nat.zero_mul, f0, f1]
    exact atQ 16 rfl (q _ rfl)
  | cons c s ih =>
    intro f h1 f0 f1 q
    have hcon := fun K => contains_run (K := K) (c := c) hg
    have hl : (c :: s).length = s.length + 1 := rfl
    rw [w_loop]
    unfold lp_strings_trimLeftASCII_0
    simp (disch := first | omega | (simp only [List.length_cons, List.length_nil, true_and, and_true, nx_push, nx_put, nx_mark]; try omega)) only [go_sem, ↓reduceIte, Nat.reduceAdd, Nat.reduceMul, Nat.reduceSub, Int.reduceToNat, UInt8.reduceToNat, Nat.reduceLeDiff, Nat.reduceEqDiff, Nat.sub_zero, Int.add_zero, Int.zero_add, Nat.add_zero, Nat.zero_add, Nat.zero_mul, f0, f1, hcon]
    cases hd : isD c with
    | true =>
      simp (disch := first | omega | (simp only [List.length_cons, List.length_nil, true_and, and_true, nx_push, nx_put, nx_mark]; try omega)) only [go_sem, ↓reduceIte, Nat.reduceAdd, Nat.reduceMul, Nat.reduceSub, Int.reduceToNat, UInt8.reduceToNat, Nat.reduceLeDiff, Nat.reduceEqDiff, Nat.sub_zero, Int.add_zero, Int.zero_add, Nat.add_zero, Nat.zero_add, Nat.zero_mul, f0, f1]
      have e : trL (c :: s) = trL s := by simp [trL, List.dropWhile_cons, hd]
      rw [e] at q
      refine atW 16 rfl (ih _ (by omega) ?_ rfl q)
      show AV.s (List.take (s.length + 1 - 1) s) = _
      simp
    | false =>
      simp (disch := first | omega | (simp only [List.length_cons, List.length_nil, true_and, and_true, nx_push, nx_put, nx_mark]; try omega)) only [go_sem, ↓reduceIte, Nat.reduceAdd, Nat.reduceMul, Nat.reduceSub, Int.reduceToNat, UInt8.reduceToNat, Nat.reduceLeDiff, Nat.reduceEqDiff, Nat.sub_zero, Int.add_zero, Int.zero_add, Nat.add_zero, Nat.zero_add, Nat.zero_mul]
      have e : trL (c :: s) = c :: s := by simp [trL, List.dropWhile_cons, hd]
      rw [e] at q
      exact atQ 16 rfl (q _ rfl)
theorem asc0 : ([(.b false), (.b false), (.b false), (.b false), (.b false), (.b false), (.b false), (.b false), (.b false), (.b false), (.b false), (.b false), (.b false), (.b false), (.b false), (.b false), (.b false), (.b false), (.b false), (.b false), (.b false), (.b false), (.b false), (.b false), (.b false), (.b false), (.b false), (.b false), (.b false), (.b false), (.b false), (.b false), (.b false), (.b false), (.b false), (.b false), (.b false), (.b false), (.b false), (.b false), (.b false), (.b false), (.b false), (.b false), (.b false), (.b false), (.b false), (.b false), (.b false), (.b false), (.b false), (.b false), (.b false), (.b false), (.b false), (.b false), (.b false), (.b false), (.b false), (.b false), (.b false), (.b false), (.b false), (.b false), (.b false), (.b false), (.b false), (.b false), (.b false), (.b false), (.b false), (.b false), (.b false), (.b false), (.b false), (.b false), (.b false), (.b false), (.b false), (.b false), (.b false), (.b false), (.b false), (.b false), (.b false), (.b false), (.b false), (.b false), (.b false), (.b false), (.b false), (.b false), (.b false), (.b false), (.b false), (.b false), (.b false), (.b false), (.b false), (.b false), (.b false), (.b false), (.b false), (.b false), (.b false), (.b false), (.b false), (.b false), (.b false), (.b false), (.b false), (.b false), (.b false), (.b false), (.b false), (.b false), (.b false), (.b false), (.b false), (.b false), (.b false), (.b false), (.b false), (.b false), (.b false), (.b false), (.b false), (.b false), (.b false), (.b false), (.b false), (.b false), (.b false), (.b false), (.b false), (.b false), (.b false), (.b false), (.b false), (.b false), (.b false), (.b false), (.b false), (.b false), (.b false), (.b false), (.b false), (.b false), (.b false), (.b false), (.b false), (.b false), (.b false), (.b false), (.b false), (.b false), (.b false), (.b false), (.b false), (.b false), (.b false), (.b false), (.b false), (.b false), (.b false), (.b false), (.b false), (.b false), (.b false), (.b false), (.b false), (.b false), (.b false), (.b false), (.b false), (.b false), (.b false), (.b false), (.b false), (.b false), (.b false), (.b false), (.b false), (.b false), (.b false), (.b false), (.b false), (.b false), (.b false), (.b false), (.b false), (.b false), (.b false), (.b false), (.b false), (.b false), (.b false), (.b false), (.b false), (.b false), (.b false), (.b false), (.b false), (.b false), (.b false), (.b false), (.b false), (.b false), (.b false), (.b false), (.b false), (.b false), (.b false), (.b false), (.b false), (.b false), (.b false), (.b false), (.b false), (.b false), (.b false), (.b false), (.b false), (.b false), (.b false), (.b false), (.b false), (.b false), (.b false), (.b false), (.b false), (.b false), (.b false), (.b false), (.b false), (.b false), (.b false), (.b false), (.b false), (.b false), (.b false), (.b false), (.b false), (.b false), (.b false), (.b false), (.b false), (.b false), (.b false), (.b false), (.b false), (.b false), (.b false), (.b false), (.b false), (.b false)] : List AV) = asc 0 := rfl
theorem asc_splice (k : Nat) (hk : k < 10) : (asc k).take (48 + k) ++ .b true :: (asc k).drop (48 + k + 1) = asc (k + 1) := by
  apply List.ext_getElem?
  intro i
  rw [List.getElem?_append]
  by_cases h : i < 48 + k
  · rw [if_pos (by simp [asc_len]; omega), List.getElem?_take, if_pos h, asc_get _ _ (by omega), asc_get _ _ (by omega)]
    congr 3; simp; omega
  · rw [if_neg (by simp [asc_len]; omega)]
    have e : (List.take (48 + k) (asc k)).length = 48 + k := by simp [asc_len]; omega
    rw [e]
    by_cases h2 : i = 48 + k
    · subst h2; rw [asc_get _ _ (by omega)]; simp
    · obtain ⟨j, rfl⟩ : ∃ j, i = 48 + k + 1 + j := ⟨i - (48 + k + 1), by omega⟩
      rw [show 48 + k + 1 + j - (48 + k) = j + 1 by omega]
      simp only [List.getElem?_cons_succ, List.getElem?_drop]
      by_cases h3 : 48 + k + 1 + j < 256
      · rw [asc_get _ _ h3, asc_get _ _ h3]; congr 3; simp; omega
      · rw [List.getElem?_eq_none (by rw [asc_len]; omega), List.getElem?_eq_none (by rw [asc_len]; omega)]
def digs : List UInt8 := [48, 49, 50, 51, 52, 53, 54, 55, 56, 57]
theorem digs_get (k : Nat) (h : k < 10) : digs[k]? = some (UInt8.ofNat (48 + k)) := by
  have : ∀ k : Fin 10, digs[k.1]? = some (UInt8.ofNat (48 + k.1)) := by decide
  exact this ⟨k, h⟩
theorem mk_loop {id t : Nat} {Q : Ex → Tr → Mem → Prop} : ∀ (m k : Nat) (f : Nat → AV) (H : Mem), k + m = 10 → H.get id = .mem (asc k) 1 t true 0 → Wf H → f 0 = .s digs → f 2 = .p (some (id, 0)) → f 4 = .i .i64 k →
    (∀ f' H', H'.get id = .mem (asc 10) 1 t true 0 → Ext id H H' → H'.next = H.next → f' 2 = .p (some (id, 0)) → Q (.ex 0) (trO 21 f') H') → @W S false (.loop lp_strings_makeASCIISet_0) (trO 21 f) H ⟨Q⟩ := by
  intro m
  induction m with
  | zero =>
    intro k f H h0 hg hw f0 f2 f4 q
    have hk : k = 10 := by omega
    subst hk
    have hd : digs.length = 10 := rfl
    rw [w_loop]
    unfold lp_strings_makeASCIISet_0
    simp (disch := first | omega | (simp only [List.length_cons, List.length_nil, true_and, and_true, nx_push, nx_put, nx_mark]; try omega)) only [go_sem, ↓reduceIte, Nat.reduceAdd, Nat.reduceMul, Nat.reduceSub, Int.reduceToNat, UInt8.reduceToNat, Nat.reduceLeDiff, Nat.reduceEqDiff, Nat.sub_zero, Int.add_zero, Int.zero_add, Nat.add_zero, Nat.zero_add, Nat.zero_mul, f0, f2, f4, hd]
    exact atQ 21 rfl (q _ H hg (Ext.refl hw) rfl rfl)
  | succ m ih =>
    intro k f H h0 hg hw f0 f2 f4 q
    have hd : digs.length = 10 := rfl
    have hb := digs_get k (by omega)
    have hn : (UInt8.ofNat (48 + k)).toNat = 48 + k := by simp; omega
    have hlt : id < H.next := hw.lt hg (by simp)
    have hl := asc_len k
    have hsp := asc_splice k (by omega)
    rw [w_loop]
    unfold lp_strings_makeASCIISet_0
    simp (disch := first | omega | (simp only [List.length_cons, List.length_nil, true_and, and_true, nx_push, nx_put, nx_mark]; try omega)) only [go_sem, ↓reduceIte, Nat.reduceAdd, Nat.reduceMul, Nat.reduceSub, Int.reduceToNat, UInt8.reduceToNat, Nat.reduceLeDiff, Nat.reduceEqDiff, Nat.sub_zero, Int.add_zero, Int.zero_add, Nat.add_zero, Nat.zero_add, Nat.zero_mul, f0, f2, f4, hd, hb, hn, hg, hl]
    rw [Nat.mul_one, hsp]
    refine atW 21 rfl (ih (k + 1) _ _ (by omega) (by simp) (hw.put hlt _) rfl rfl (by show AV.i .i64 ((k : Int) + 1) = _; simp) (fun f' H' a b d e => q f' H' a ⟨?_, b.marks, fun j hj => ?_, b.wf⟩ d e))
    · have := b.next; simpa using this
    · rw [b.get j hj, Mem.get_put, if_neg (by omega)]
def tup2 (a : Option AV) (b : AV) : Option AV := match a with
  | some x => some (.tup [x, b])
  | none => none
@[go_sem] theorem tup2_some {x y : AV} : tup2 (some x) y = some (.tup [x, y]) := rfl
theorem res2ct {env : Tr} {p q : Pth} {a : Bool} {i : Nat} : resA env H [.cell p a i, .t q] = tup2 (loadS H a i (env.get p)) (env.get q) := by
  have e : resA1 env H (.cell p a i) = loadS H a i (env.get p) := rfl
  have e2 : resA1 env H (.t q) = some (env.get q) := rfl
  unfold resA
  simp only [mapO, e, e2]
  cases loadS H a i (env.get p) <;> rfl
theorem mk_run (hw : Wf H) (h : ∀ H', Ext H.next H H' → K (.tup [.agg (asc 10), .b true]) H') : @R S (.f n_strings_makeASCIISet) [.s digs] H ⟨K⟩ := by
  refine run_fn2 rfl rfl ?_
  unfold bd_strings_makeASCIISet
  simp only [asc0]
  simp (disch := first | omega | (simp only [List.length_cons, List.length_nil, true_and, and_true, nx_push, nx_put, nx_mark]; try omega)) only [go_sem, ↓reduceIte, Nat.reduceAdd, Nat.reduceMul, Nat.reduceSub, Int.reduceToNat, UInt8.reduceToNat, Nat.reduceLeDiff, Nat.reduceEqDiff, Nat.sub_zero, Int.add_zero, Int.zero_add, Nat.add_zero, Nat.zero_add, Nat.zero_mul]
  refine atW 21 rfl (mk_loop (id := H.next) (t := ty_strings_asciiSet) 10 0 _ _ rfl (by simp (disch := first | omega | (simp only [List.length_cons, List.length_nil, true_and, and_true, nx_push, nx_put, nx_mark]; try omega)) only [go_sem, ↓reduceIte, Nat.reduceAdd, Nat.reduceMul, Nat.reduceSub, Int.reduceToNat, UInt8.reduceToNat, Nat.reduceLeDiff, Nat.reduceEqDiff, Nat.sub_zero, Int.add_zero, Int.zero_add, Nat.add_zero, Nat.zero_add, Nat.zero_mul]) (hw.push _) rfl rfl rfl (fun f' H' a b c d => ?_))
  have hm : H'.marks = [] := b.marks
  simp (disch := first | omega | (simp only [List.length_cons, List.length_nil, true_and, and_true, nx_push, nx_put, nx_mark]; try omega)) only [go_sem, ↓reduceIte, Nat.reduceAdd, Nat.reduceMul, Nat.reduceSub, Int.reduceToNat, UInt8.reduceToNat, Nat.reduceLeDiff, Nat.reduceEqDiff, Nat.sub_zero, Int.add_zero, Int.zero_add, Nat.add_zero, Nat.zero_add, Nat.zero_mul, d, a, hm, res2ct, asc_len, asc_all, asc_take, asc_drop]
  have b0 : Ext H.next (H.mark []) H' := ((Ext.refl (H := H.mark []) hw).push _ (Nat.le_refl _)).trans b (Nat.le_refl _)
  exact h _ ((Ext.mark b0).put (Nat.le_refl _) (by rw [nx_mark, c]; simp) _)
theorem trR_run {id t : Nat} {s : List UInt8} (hs : s.length ≤ 1000000) (hg : H.get id = .mem (asc 10) 1 t true 0) : @R S (.f n_strings_trimRightASCII) [.s s, .p (some (id, 0))] H ⟨K⟩ ↔ K (.s (trR s)) H := by
  refine run_iff fun K h => ?_
  refine run_fn2 rfl rfl ?_
  unfold bd_strings_trimRightASCII
  simp (disch := first | omega | (simp only [List.length_cons, List.length_nil, true_and, and_true, nx_push, nx_put, nx_mark]; try omega)) only [go_sem, ↓reduceIte, Nat.reduceAdd, Nat.reduceMul, Nat.reduceSub, Int.reduceToNat, UInt8.reduceToNat, Nat.reduceLeDiff, Nat.reduceEqDiff, Nat.sub_zero, Int.add_zero, Int.zero_add, Nat.add_zero, Nat.zero_add, Nat.zero_mul]
  refine atW 22 rfl (trR_loop (H := H.mark []) hg s.length s _ (Nat.le_refl _) hs rfl rfl (fun f' e => ?_))
  simp (disch := first | omega | (simp only [List.length_cons, List.length_nil, true_and, and_true, nx_push, nx_put, nx_mark]; try omega)) only [go_sem, ↓reduceIte, Nat.reduceAdd, Nat.reduceMul, Nat.reduceSub, Int.reduceToNat, UInt8.reduceToNat, Nat.reduceLeDiff, Nat.reduceEqDiff, Nat.sub_zero, Int.add_zero, Int.zero_add, Nat.add_zero, Nat.zero_add, Nat.zero_mul, e]
  exact h
theorem trL_run {id t : Nat} {s : List UInt8} (hs : s.length ≤ 1000000) (hg : H.get id = .mem (asc 10) 1 t true 0) : @R S (.f n_strings_trimLeftASCII) [.s s, .p (some (id, 0))] H ⟨K⟩ ↔ K (.s (trL s)) H := by
  refine run_iff fun K h => ?_
  refine run_fn2 rfl rfl ?_
  unfold bd_strings_trimLeftASCII
  simp (disch := first | omega | (simp only [List.length_cons, List.length_nil, true_and, and_true, nx_push, nx_put, nx_mark]; try omega)) only [go_sem, ↓reduceIte, Nat.reduceAdd, Nat.reduceMul, Nat.reduceSub, Int.reduceToNat, UInt8.reduceToNat, Nat.reduceLeDiff, Nat.reduceEqDiff, Nat.sub_zero, Int.add_zero, Int.zero_add, Nat.add_zero, Nat.zero_add, Nat.zero_mul]
  refine atW 16 rfl (trL_loop (H := H.mark []) hg s _ hs rfl rfl (fun f' e => ?_))
  simp (disch := first | omega | (simp only [List.length_cons, List.length_nil, true_and, and_true, nx_push, nx_put, nx_mark]; try omega)) only [go_sem, ↓reduceIte, Nat.reduceAdd, Nat.reduceMul, Nat.reduceSub, Int.reduceToNat, UInt8.reduceToNat, Nat.reduceLeDiff, Nat.reduceEqDiff, Nat.sub_zero, Int.add_zero, Int.zero_add, Nat.add_zero, Nat.zero_add, Nat.zero_mul, e]
  exact h
theorem trR_le (s : List UInt8) : (trR s).length ≤ s.length := by
  have := (List.dropWhile_sublist isD (l := s.reverse)).length_le
  unfold trR; simpa using this
theorem Trim_run {s : List UInt8} (hs : s.length ≤ 1000000) (h0 : s ≠ []) (hw : Wf H) (h : ∀ H', Ext H.next H H' → K (.s (trL (trR s))) H') : @R S (.f n_strings_Trim) [.s s, .s digs] H ⟨K⟩ := by
  refine run_fn2 rfl rfl ?_
  unfold bd_strings_Trim
  simp only [asc0]
  have d0 : (digs = []) = False := by simp [digs]
  have d1 : digs.length = 10 := rfl
  have s0 : (s = []) = False := by simp [h0]
  simp (disch := first | omega | (simp only [List.length_cons, List.length_nil, true_and, and_true, nx_push, nx_put, nx_mark]; try omega)) only [go_sem, ↓reduceIte, Nat.reduceAdd, Nat.reduceMul, Nat.reduceSub, Int.reduceToNat, UInt8.reduceToNat, Nat.reduceLeDiff, Nat.reduceEqDiff, Nat.sub_zero, Int.add_zero, Int.zero_add, Nat.add_zero, Nat.zero_add, Nat.zero_mul, d0, d1, s0]
  refine mk_run (H := H.mark []) hw (fun H1 x => ?_)
  simp (disch := first | omega | (simp only [List.length_cons, List.length_nil, true_and, and_true, nx_push, nx_put, nx_mark]; try omega)) only [go_sem, ↓reduceIte, Nat.reduceAdd, Nat.reduceMul, Nat.reduceSub, Int.reduceToNat, UInt8.reduceToNat, Nat.reduceLeDiff, Nat.reduceEqDiff, Nat.sub_zero, Int.add_zero, Int.zero_add, Nat.add_zero, Nat.zero_add, Nat.zero_mul, asc_len, asc_all, asc_take, asc_drop]
  have hg : ((H1.push (AO.mem (asc 0) 1 ty_strings_asciiSet true 0)).put H1.next (AO.mem (asc 10) 1 ty_strings_asciiSet true 0)).get H1.next = .mem (asc 10) 1 ty_strings_asciiSet true 0 := by simp (disch := first | omega | (simp only [List.length_cons, List.length_nil, true_and, and_true, nx_push, nx_put, nx_mark]; try omega)) only [go_sem, ↓reduceIte, Nat.reduceAdd, Nat.reduceMul, Nat.reduceSub, Int.reduceToNat, UInt8.reduceToNat, Nat.reduceLeDiff, Nat.reduceEqDiff, Nat.sub_zero, Int.add_zero, Int.zero_add, Nat.add_zero, Nat.zero_add, Nat.zero_mul]
  have hs2 := trR_le s
  have hm : H1.marks = [] := x.marks
  rw [trR_run hs hg]
  simp (disch := first | omega | (simp only [List.length_cons, List.length_nil, true_and, and_true, nx_push, nx_put, nx_mark]; try omega)) only [go_sem, ↓reduceIte, Nat.reduceAdd, Nat.reduceMul, Nat.reduceSub, Int.reduceToNat, UInt8.reduceToNat, Nat.reduceLeDiff, Nat.reduceEqDiff, Nat.sub_zero, Int.add_zero, Int.zero_add, Nat.add_zero, Nat.zero_add, Nat.zero_mul]
  rw [trL_run (by omega) hg]
  simp (disch := first | omega | (simp only [List.length_cons, List.length_nil, true_and, and_true, nx_push, nx_put, nx_mark]; try omega)) only [go_sem, ↓reduceIte, Nat.reduceAdd, Nat.reduceMul, Nat.reduceSub, Int.reduceToNat, UInt8.reduceToNat, Nat.reduceLeDiff, Nat.reduceEqDiff, Nat.sub_zero, Int.add_zero, Int.zero_add, Nat.add_zero, Nat.zero_add, Nat.zero_mul, hm]
  have xn : H.next ≤ H1.next := x.next
  exact h _ (((Ext.mark x).push _ xn).put xn (by simp) _)
theorem kT {a b : Int} {v : AV} (e : b = a) (h : K (.tup [.i .i64 a, v]) H) : K (.tup [.i .i64 b, v]) H := e ▸ h
theorem iAtoi1 {a : UInt8} (ha : isD a = true) (hw : Wf H) (h : ∀ H', Ext H.next H H' → K (.tup [.i .i64 ((a.toNat : Int) - 48), .nif]) H') : @R S (.f n_internal_strconv_Atoi) [.s [a]] H ⟨K⟩ := by
  have a1 : 48 ≤ a.toNat ∧ a.toNat ≤ 57 := by simpa [isD] using ha
  refine run_fn2 rfl rfl ?_
  unfold bd_internal_strconv_Atoi
  simp (disch := first | omega | (simp only [List.length_cons, List.length_nil, true_and, and_true, nx_push, nx_put, nx_mark]; try omega)) only [go_sem, ↓reduceIte, Nat.reduceAdd, Nat.reduceMul, Nat.reduceSub, Int.reduceToNat, UInt8.reduceToNat, Nat.reduceLeDiff, Nat.reduceEqDiff, Nat.sub_zero, Int.add_zero, Int.zero_add, Nat.add_zero, Nat.zero_add, Nat.zero_mul]
  rw [w_loop]
  unfold lp_internal_strconv_Atoi_0
  simp (disch := first | omega | (simp only [List.length_cons, List.length_nil, true_and, and_true, nx_push, nx_put, nx_mark]; try omega)) only [go_sem, ↓reduceIte, Nat.reduceAdd, Nat.reduceMul, Nat.reduceSub, Int.reduceToNat, UInt8.reduceToNat, Nat.reduceLeDiff, Nat.reduceEqDiff, Nat.sub_zero, Int.add_zero, Int.zero_add, Nat.add_zero, Nat.zero_add, Nat.zero_mul]
  rw [w_loop]
  simp (disch := first | omega | (simp only [List.length_cons, List.length_nil, true_and, and_true, nx_push, nx_put, nx_mark]; try omega)) only [go_sem, ↓reduceIte, Nat.reduceAdd, Nat.reduceMul, Nat.reduceSub, Int.reduceToNat, UInt8.reduceToNat, Nat.reduceLeDiff, Nat.reduceEqDiff, Nat.sub_zero, Int.add_zero, Int.zero_add, Nat.add_zero, Nat.zero_add, Nat.zero_mul]
  refine kT ?_ (h _ ((Ext.refl hw).push _ (Nat.le_refl _)))
  omega
theorem iAtoi2 {a b : UInt8} (ha : isD a = true) (hb : isD b = true) (hw : Wf H) (h : ∀ H', Ext H.next H H' → K (.tup [.i .i64 (10 * ((a.toNat : Int) - 48) + ((b.toNat : Int) - 48)), .nif]) H') : @R S (.f n_internal_strconv_Atoi) [.s [a, b]] H ⟨K⟩ := by
  have a1 : 48 ≤ a.toNat ∧ a.toNat ≤ 57 := by simpa [isD] using ha
  have b1 : 48 ≤ b.toNat ∧ b.toNat ≤ 57 := by simpa [isD] using hb
  refine run_fn2 rfl rfl ?_
  unfold bd_internal_strconv_Atoi
  simp (disch := first | omega | (simp only [List.length_cons, List.length_nil, true_and, and_true, nx_push, nx_put, nx_mark]; try omega)) only [go_sem, ↓reduceIte, Nat.reduceAdd, Nat.reduceMul, Nat.reduceSub, Int.reduceToNat, UInt8.reduceToNat, Nat.reduceLeDiff, Nat.reduceEqDiff, Nat.sub_zero, Int.add_zero, Int.zero_add, Nat.add_zero, Nat.zero_add, Nat.zero_mul]
  rw [w_loop]
  unfold lp_internal_strconv_Atoi_0
  simp (disch := first | omega | (simp only [List.length_cons, List.length_nil, true_and, and_true, nx_push, nx_put, nx_mark]; try omega)) only [go_sem, ↓reduceIte, Nat.reduceAdd, Nat.reduceMul, Nat.reduceSub, Int.reduceToNat, UInt8.reduceToNat, Nat.reduceLeDiff, Nat.reduceEqDiff, Nat.sub_zero, Int.add_zero, Int.zero_add, Nat.add_zero, Nat.zero_add, Nat.zero_mul]
  rw [w_loop]
  simp (disch := first | omega | (simp only [List.length_cons, List.length_nil, true_and, and_true, nx_push, nx_put, nx_mark]; try omega)) only [go_sem, ↓reduceIte, Nat.reduceAdd, Nat.reduceMul, Nat.reduceSub, Int.reduceToNat, UInt8.reduceToNat, Nat.reduceLeDiff, Nat.reduceEqDiff, Nat.sub_zero, Int.add_zero, Int.zero_add, Nat.add_zero, Nat.zero_add, Nat.zero_mul]
  rw [w_loop]
  simp (disch := first | omega | (simp only [List.length_cons, List.length_nil, true_and, and_true, nx_push, nx_put, nx_mark]; try omega)) only [go_sem, ↓reduceIte, Nat.reduceAdd, Nat.reduceMul, Nat.reduceSub, Int.reduceToNat, UInt8.reduceToNat, Nat.reduceLeDiff, Nat.reduceEqDiff, Nat.sub_zero, Int.add_zero, Int.zero_add, Nat.add_zero, Nat.zero_add, Nat.zero_mul]
  refine kT ?_ (h _ ((Ext.refl hw).push _ (Nat.le_refl _)))
  omega
/-- A number of one or two digits; none: it is none. -/
def numF : List UInt8 → Option Int
  | [a] => if isD a = true ∧ a.toNat ≠ 48 then some ((a.toNat : Int) - 48) else none
  | [a, b] => if isD a = true ∧ isD b = true ∧ a.toNat ≠ 48 then some (10 * ((a.toNat : Int) - 48) + ((b.toNat : Int) - 48)) else none
  | _ => none
@[go_sem] theorem nif_neq : binA .neq .iface .nif .nif = some (.b false) := rfl
theorem Atoi1 {a : UInt8} (ha : isD a = true) (hw : Wf H) (h : ∀ H', Ext H.next H H' → K (.tup [.i .i64 ((a.toNat : Int) - 48), .nif]) H') : @R S (.f n_strconv_Atoi) [.s [a]] H ⟨K⟩ := by
  refine run_fn2 rfl rfl ?_
  unfold bd_strconv_Atoi
  simp (disch := first | omega | (simp only [List.length_cons, List.length_nil, true_and, and_true, nx_push, nx_put, nx_mark]; try omega)) only [go_sem, ↓reduceIte, Nat.reduceAdd, Nat.reduceMul, Nat.reduceSub, Int.reduceToNat, UInt8.reduceToNat, Nat.reduceLeDiff, Nat.reduceEqDiff, Nat.sub_zero, Int.add_zero, Int.zero_add, Nat.add_zero, Nat.zero_add, Nat.zero_mul]
  refine iAtoi1 (H := H.mark []) ha hw (fun H' x => ?_)
  have hm : H'.marks = [] := x.marks
  simp (disch := first | omega | (simp only [List.length_cons, List.length_nil, true_and, and_true, nx_push, nx_put, nx_mark]; try omega)) only [go_sem, ↓reduceIte, Nat.reduceAdd, Nat.reduceMul, Nat.reduceSub, Int.reduceToNat, UInt8.reduceToNat, Nat.reduceLeDiff, Nat.reduceEqDiff, Nat.sub_zero, Int.add_zero, Int.zero_add, Nat.add_zero, Nat.zero_add, Nat.zero_mul, hm]
  exact h _ (Ext.mark x)
theorem Atoi2 {a b : UInt8} (ha : isD a = true) (hb : isD b = true) (hw : Wf H) (h : ∀ H', Ext H.next H H' → K (.tup [.i .i64 (10 * ((a.toNat : Int) - 48) + ((b.toNat : Int) - 48)), .nif]) H') : @R S (.f n_strconv_Atoi) [.s [a, b]] H ⟨K⟩ := by
  refine run_fn2 rfl rfl ?_
  unfold bd_strconv_Atoi
  simp (disch := first | omega | (simp only [List.length_cons, List.length_nil, true_and, and_true, nx_push, nx_put, nx_mark]; try omega)) only [go_sem, ↓reduceIte, Nat.reduceAdd, Nat.reduceMul, Nat.reduceSub, Int.reduceToNat, UInt8.reduceToNat, Nat.reduceLeDiff, Nat.reduceEqDiff, Nat.sub_zero, Int.add_zero, Int.zero_add, Nat.add_zero, Nat.zero_add, Nat.zero_mul]
  refine iAtoi2 (H := H.mark []) ha hb hw (fun H' x => ?_)
  have hm : H'.marks = [] := x.marks
  simp (disch := first | omega | (simp only [List.length_cons, List.length_nil, true_and, and_true, nx_push, nx_put, nx_mark]; try omega)) only [go_sem, ↓reduceIte, Nat.reduceAdd, Nat.reduceMul, Nat.reduceSub, Int.reduceToNat, UInt8.reduceToNat, Nat.reduceLeDiff, Nat.reduceEqDiff, Nat.sub_zero, Int.add_zero, Int.zero_add, Nat.add_zero, Nat.zero_add, Nat.zero_mul, hm]
  exact h _ (Ext.mark x)
theorem trD1 (a : UInt8) : trL (trR [a]) = if isD a = true then [] else [a] := by
  cases h : isD a <;> simp [trL, trR, List.dropWhile_cons, h]
theorem trD2 (a b : UInt8) : trL (trR [a, b]) = [] ↔ isD a = true ∧ isD b = true := by
  cases h : isD a <;> cases h2 : isD b <;> simp [trL, trR, List.dropWhile_cons, h, h2]
def numT (o : Option Int) : AV := match o with
  | some n => .tup [.i .i64 n, .b true]
  | none => .tup [.i .i64 0, .b false]
theorem number_run {s : List UInt8} (hs : s.length ≤ 1000000) (hw : Wf H) (h : ∀ H', Ext H.next H H' → K (numT (numF s)) H') : @R S (.f n_role_number) [.s s] H ⟨K⟩ := by
  refine run_fn2 rfl rfl ?_
  unfold bd_role_number
  have dg : ([48, 49, 50, 51, 52, 53, 54, 55, 56, 57] : List UInt8) = digs := rfl
  rw [dg]
  match s with
  | [] => 
    simp (disch := first | omega | (simp only [List.length_cons, List.length_nil, true_and, and_true, nx_push, nx_put, nx_mark]; try omega)) only [go_sem, ↓reduceIte, Nat.reduceAdd, Nat.reduceMul, Nat.reduceSub, Int.reduceToNat, UInt8.reduceToNat, Nat.reduceLeDiff, Nat.reduceEqDiff, Nat.sub_zero, Int.add_zero, Int.zero_add, Nat.add_zero, Nat.zero_add, Nat.zero_mul]
    exact h _ (Ext.refl hw)
  | a :: b :: c :: r =>
    have : (a :: b :: c :: r).length = r.length + 3 := rfl
    simp (disch := first | omega | (simp only [List.length_cons, List.length_nil, true_and, and_true, nx_push, nx_put, nx_mark]; try omega)) only [go_sem, ↓reduceIte, Nat.reduceAdd, Nat.reduceMul, Nat.reduceSub, Int.reduceToNat, UInt8.reduceToNat, Nat.reduceLeDiff, Nat.reduceEqDiff, Nat.sub_zero, Int.add_zero, Int.zero_add, Nat.add_zero, Nat.zero_add, Nat.zero_mul, this]
    exact h _ (Ext.refl hw)
  | [a] =>
    simp (disch := first | omega | (simp only [List.length_cons, List.length_nil, true_and, and_true, nx_push, nx_put, nx_mark]; try omega)) only [go_sem, ↓reduceIte, Nat.reduceAdd, Nat.reduceMul, Nat.reduceSub, Int.reduceToNat, UInt8.reduceToNat, Nat.reduceLeDiff, Nat.reduceEqDiff, Nat.sub_zero, Int.add_zero, Int.zero_add, Nat.add_zero, Nat.zero_add, Nat.zero_mul]
    refine grd_dec (fun h1 => ?_) (fun h1 => ?_)
    · have e : numF [a] = none := by simp only [numF]; rw [if_neg (by omega)]
      rw [e] at h
      simp (disch := first | omega | (simp only [List.length_cons, List.length_nil, true_and, and_true, nx_push, nx_put, nx_mark]; try omega)) only [go_sem, ↓reduceIte, Nat.reduceAdd, Nat.reduceMul, Nat.reduceSub, Int.reduceToNat, UInt8.reduceToNat, Nat.reduceLeDiff, Nat.reduceEqDiff, Nat.sub_zero, Int.add_zero, Int.zero_add, Nat.add_zero, Nat.zero_add, Nat.zero_mul]
      exact h _ (Ext.refl hw)
    · simp (disch := first | omega | (simp only [List.length_cons, List.length_nil, true_and, and_true, nx_push, nx_put, nx_mark]; try omega)) only [go_sem, ↓reduceIte, Nat.reduceAdd, Nat.reduceMul, Nat.reduceSub, Int.reduceToNat, UInt8.reduceToNat, Nat.reduceLeDiff, Nat.reduceEqDiff, Nat.sub_zero, Int.add_zero, Int.zero_add, Nat.add_zero, Nat.zero_add, Nat.zero_mul]
      refine Trim_run (H := H.mark []) (by simp) (by simp) hw (fun H1 x => ?_)
      have hm : H1.marks = [] := x.marks
      rw [trD1]
      cases hd : isD a with
      | false =>
        have e : numF [a] = none := by simp only [numF]; rw [if_neg (by simp [hd])]
        rw [e] at h
        simp (disch := first | omega | (simp only [List.length_cons, List.length_nil, true_and, and_true, nx_push, nx_put, nx_mark]; try omega)) only [go_sem, ↓reduceIte, Nat.reduceAdd, Nat.reduceMul, Nat.reduceSub, Int.reduceToNat, UInt8.reduceToNat, Nat.reduceLeDiff, Nat.reduceEqDiff, Nat.sub_zero, Int.add_zero, Int.zero_add, Nat.add_zero, Nat.zero_add, Nat.zero_mul, hm, reduceCtorEq]
        exact h _ (Ext.mark x)
      | true =>
        have e : numF [a] = some ((a.toNat : Int) - 48) := by simp only [numF]; rw [if_pos ⟨hd, by omega⟩]
        rw [e] at h
        simp (disch := first | omega | (simp only [List.length_cons, List.length_nil, true_and, and_true, nx_push, nx_put, nx_mark]; try omega)) only [go_sem, ↓reduceIte, Nat.reduceAdd, Nat.reduceMul, Nat.reduceSub, Int.reduceToNat, UInt8.reduceToNat, Nat.reduceLeDiff, Nat.reduceEqDiff, Nat.sub_zero, Int.add_zero, Int.zero_add, Nat.add_zero, Nat.zero_add, Nat.zero_mul]
        refine Atoi1 hd x.wf (fun H2 x2 => ?_)
        have hm2 : H2.marks = [] := x2.marks.trans hm
        simp (disch := first | omega | (simp only [List.length_cons, List.length_nil, true_and, and_true, nx_push, nx_put, nx_mark]; try omega)) only [go_sem, ↓reduceIte, Nat.reduceAdd, Nat.reduceMul, Nat.reduceSub, Int.reduceToNat, UInt8.reduceToNat, Nat.reduceLeDiff, Nat.reduceEqDiff, Nat.sub_zero, Int.add_zero, Int.zero_add, Nat.add_zero, Nat.zero_add, Nat.zero_mul, hm2]
        exact h _ (Ext.mark (x.trans x2 x.next))
  | [a, b] =>
    simp (disch := first | omega | (simp only [List.length_cons, List.length_nil, true_and, and_true, nx_push, nx_put, nx_mark]; try omega)) only [go_sem, ↓reduceIte, Nat.reduceAdd, Nat.reduceMul, Nat.reduceSub, Int.reduceToNat, UInt8.reduceToNat, Nat.reduceLeDiff, Nat.reduceEqDiff, Nat.sub_zero, Int.add_zero, Int.zero_add, Nat.add_zero, Nat.zero_add, Nat.zero_mul]
    refine grd_dec (fun h1 => ?_) (fun h1 => ?_)
    · have e : numF [a, b] = none := by simp only [numF]; rw [if_neg (by omega)]
      rw [e] at h
      simp (disch := first | omega | (simp only [List.length_cons, List.length_nil, true_and, and_true, nx_push, nx_put, nx_mark]; try omega)) only [go_sem, ↓reduceIte, Nat.reduceAdd, Nat.reduceMul, Nat.reduceSub, Int.reduceToNat, UInt8.reduceToNat, Nat.reduceLeDiff, Nat.reduceEqDiff, Nat.sub_zero, Int.add_zero, Int.zero_add, Nat.add_zero, Nat.zero_add, Nat.zero_mul]
      exact h _ (Ext.refl hw)
    · simp (disch := first | omega | (simp only [List.length_cons, List.length_nil, true_and, and_true, nx_push, nx_put, nx_mark]; try omega)) only [go_sem, ↓reduceIte, Nat.reduceAdd, Nat.reduceMul, Nat.reduceSub, Int.reduceToNat, UInt8.reduceToNat, Nat.reduceLeDiff, Nat.reduceEqDiff, Nat.sub_zero, Int.add_zero, Int.zero_add, Nat.add_zero, Nat.zero_add, Nat.zero_mul]
      refine Trim_run (H := H.mark []) (by simp) (by simp) hw (fun H1 x => ?_)
      have hm : H1.marks = [] := x.marks
      by_cases hd : isD a = true ∧ isD b = true
      · have e : numF [a, b] = some (10 * ((a.toNat : Int) - 48) + ((b.toNat : Int) - 48)) := by simp only [numF]; rw [if_pos ⟨hd.1, hd.2, by omega⟩]
        rw [e] at h
        rw [(trD2 a b).2 hd]
        simp (disch := first | omega | (simp only [List.length_cons, List.length_nil, true_and, and_true, nx_push, nx_put, nx_mark]; try omega)) only [go_sem, ↓reduceIte, Nat.reduceAdd, Nat.reduceMul, Nat.reduceSub, Int.reduceToNat, UInt8.reduceToNat, Nat.reduceLeDiff, Nat.reduceEqDiff, Nat.sub_zero, Int.add_zero, Int.zero_add, Nat.add_zero, Nat.zero_add, Nat.zero_mul]
        refine Atoi2 hd.1 hd.2 x.wf (fun H2 x2 => ?_)
        have hm2 : H2.marks = [] := x2.marks.trans hm
        simp (disch := first | omega | (simp only [List.length_cons, List.length_nil, true_and, and_true, nx_push, nx_put, nx_mark]; try omega)) only [go_sem, ↓reduceIte, Nat.reduceAdd, Nat.reduceMul, Nat.reduceSub, Int.reduceToNat, UInt8.reduceToNat, Nat.reduceLeDiff, Nat.reduceEqDiff, Nat.sub_zero, Int.add_zero, Int.zero_add, Nat.add_zero, Nat.zero_add, Nat.zero_mul, hm2]
        exact h _ (Ext.mark (x.trans x2 x.next))
      · have e : numF [a, b] = none := by simp only [numF]; rw [if_neg (fun k => hd ⟨k.1, k.2.1⟩)]
        rw [e] at h
        have hne : (trL (trR [a, b]) = []) = False := by simp [trD2, hd]
        simp (disch := first | omega | (simp only [List.length_cons, List.length_nil, true_and, and_true, nx_push, nx_put, nx_mark]; try omega)) only [go_sem, ↓reduceIte, Nat.reduceAdd, Nat.reduceMul, Nat.reduceSub, Int.reduceToNat, UInt8.reduceToNat, Nat.reduceLeDiff, Nat.reduceEqDiff, Nat.sub_zero, Int.add_zero, Int.zero_add, Nat.add_zero, Nat.zero_add, Nat.zero_mul, hm, hne]
        exact h _ (Ext.mark x)
end Go.Fw.Ro
end
section
/- Forms; a line's fact; a text's facts. -/
namespace Go.Fw.Ro
open Go Go.Fw Go.Fw.Sys
set_option maxRecDepth 100000
variable {H : Mem} {K : AV → Mem → Prop}
theorem slVA_up {H' : Mem} {sz : Nat} {v u : AV} {lo hi : Option AV} (k : leG H.get H'.get) (h : slVA H sz v lo hi none = some u) : slVA H' sz v lo hi none = some u := by
  cases v with
  | sl id off len cap =>
    by_cases hd : H.get id = .dead
    · rw [slVA, hd] at h; simp at h
    · rw [slVA, k id hd]; exact h
  | _ => simpa [slVA] using h
structure Form where
  kind : Int
  names : Int
  number : Bool
  least : Int
  most : Int
def formF (w : List UInt8) : Option Form :=
  if w = [117, 115, 101, 114] then some ⟨1, 1, false, 1, 1⟩
  else if w = [114, 111, 108, 101] then some ⟨2, 1, false, 1, 1⟩
  else if w = [105, 110, 104, 101, 114, 105, 116] then some ⟨3, 2, false, 2, 2⟩
  else if w = [97, 115, 115, 105, 103, 110] then some ⟨4, 2, false, 2, 2⟩
  else if w = [103, 114, 97, 110, 116] then some ⟨5, 3, false, 3, 3⟩
  else if w = [115, 115, 100] then some ⟨6, 1, true, 4, 1073741824⟩
  else if w = [100, 115, 100] then some ⟨7, 1, true, 4, 1073741824⟩
  else if w = [115, 101, 115, 115, 105, 111, 110] then some ⟨8, 2, false, 2, 1073741824⟩
  else none
def formV : Option Form → AV
  | some f => .agg [.i .i64 f.kind, .i .i64 f.names, .b f.number, .i .i64 f.least, .i .i64 f.most]
  | none => .agg [.i .i64 0, .i .i64 0, .b false, .i .i64 0, .i .i64 0]
theorem formOf_run {w : List UInt8} (hw : Wf H) (h : ∀ H', Ext H.next H H' → K (.tup [formV (formF w), .b (formF w).isSome]) H') : @R S (.f n_role_formOf) [.s w] H ⟨K⟩ := by
  refine run_fn2 rfl rfl ?_
  unfold bd_role_formOf
  unfold formF at h
  have x : ∀ o o', Ext H.next H ((H.push o).put H.next o') := fun o o' => ((Ext.refl hw).push _ (Nat.le_refl _)).put (Nat.le_refl _) (by simp) _
  simp (disch := first | omega | (simp only [List.length_cons, List.length_nil, true_and, and_true, nx_push, nx_put, nx_mark]; try omega)) only [go_sem, ↓reduceIte, Nat.reduceAdd, Nat.reduceMul, Nat.reduceSub, Int.reduceToNat, UInt8.reduceToNat, Nat.reduceLeDiff, Nat.reduceEqDiff, Nat.sub_zero, Int.add_zero, Int.zero_add, Nat.add_zero, Nat.zero_add, Nat.zero_mul]
  iterate 8
    refine cnd_dec (fun h1 => ?_) (fun h1 => ?_)
    · rw [if_pos h1] at h
      simp (disch := first | omega | (simp only [List.length_cons, List.length_nil, true_and, and_true, nx_push, nx_put, nx_mark]; try omega)) only [go_sem, ↓reduceIte, Nat.reduceAdd, Nat.reduceMul, Nat.reduceSub, Int.reduceToNat, UInt8.reduceToNat, Nat.reduceLeDiff, Nat.reduceEqDiff, Nat.sub_zero, Int.add_zero, Int.zero_add, Nat.add_zero, Nat.zero_add, Nat.zero_mul, res2ct]
      exact h _ (x _ _)
    rw [if_neg h1] at h
    simp (disch := first | omega | (simp only [List.length_cons, List.length_nil, true_and, and_true, nx_push, nx_put, nx_mark]; try omega)) only [go_sem, ↓reduceIte, Nat.reduceAdd, Nat.reduceMul, Nat.reduceSub, Int.reduceToNat, UInt8.reduceToNat, Nat.reduceLeDiff, Nat.reduceEqDiff, Nat.sub_zero, Int.add_zero, Int.zero_add, Nat.add_zero, Nat.zero_add, Nat.zero_mul, res2ct]
  exact h _ (x _ _)
structure FactT where
  kind : Int
  A : List UInt8
  B : List UInt8
  C : List UInt8
  N : Int
  L : List (List UInt8)
  at_ : Int
  deriving DecidableEq
def fact0 : FactT := ⟨0, [], [], [], 0, [], 0⟩
abbrev WordT := List UInt8 × Int
def putN (i names : Int) (w : List UInt8) (x : FactT) : FactT := if names ≤ i then { x with L := x.L ++ [w] } else if i = 0 then { x with A := w } else if i = 1 then { x with B := w } else { x with C := w }
def fillF (F : Form) : Nat → List WordT → FactT → Except (Int × Int) FactT
  | _, [], x => .ok x
  | i, w :: r, x => if F.number = true ∧ (i : Int) = F.names then (match numF w.1 with
      | some n => fillF F (i + 1) r { x with N := n }
      | none => .error (w.2, 9))
    else if isName w.1 = true then fillF F (i + 1) r (putN i F.names w.1 x) else .error (w.2, 15)
/-- An element that is a text. -/
def Rs : Gt → List AV → List UInt8 → Prop := fun _ c x => c = [.s x]
theorem Rs_mono : Mono Rs := fun _ _ _ _ _ h => h
def factC (x : FactT) (u : AV) : List AV := [.i .i64 x.kind, .s x.A, .s x.B, .s x.C, .i .i64 x.N, u, .i .i64 x.at_]
def FO (n o : Nat) (x : FactT) (H : Mem) : Prop := ∃ u, H.get o = .mem (factC x u) 0 ty_api_Fact true 0 ∧ SlO 1 ty_string Rs n H u x.L
def formC (F : Form) : List AV := [.i .i64 F.kind, .i .i64 F.names, .b F.number, .i .i64 F.least, .i .i64 F.most]
theorem fill_loop {m n o bx : Nat} {F : Form} {v : AV} {ws : List WordT} {H0 : Mem} {Q : Ex → Tr → Mem → Prop} (hv : ∀ H', Ext m H0 H' → SlR 2 Rword H'.get v ws) (hmo : m ≤ o) (hon : o < n) (hmb : m ≤ bx) (hbn : bx < n) (hbo : bx ≠ o) (hln : ws.length ≤ 1000000) (hlw : ∀ w ∈ ws, w.1.length ≤ 1000000) :
    ∀ (r : List WordT) (i : Nat) (f : Nat → AV) (H : Mem) (x : FactT), ws.drop i = r → i + r.length = ws.length → Ext m H0 H → n ≤ H.next → H.get bx = .mem (formC F) 0 ty_role_form true 0 → FO n o x H → x.L.length ≤ i → f 1 = .p (some (o, 0)) → f 3 = .p (some (bx, 0)) → f 12 = v → f 13 = .i .i64 ws.length → f 14 = .i .i64 i →
    (∀ q e f' H', fillF F i r x = .error (q, e) → f' 6 = .i .i64 q → f' 7 = .i .i64 e → Ext m H0 H' → Q .rt (trO 85 f') H') →
    (∀ y f' H', fillF F i r x = .ok y → Ext m H0 H' → FO n o y H' → Q (.ex 0) (trO 85 f') H') → @W S false (.loop lp__role_form_fill_0) (trO 85 f) H ⟨Q⟩ := by
  intro r
  induction r with
  | nil =>
    intro i f H x hr hi hx hn hb ho hl f1 f3 f12 f13 f14 k1 k2
    simp at hi
    rw [w_loop]
    unfold lp__role_form_fill_0
    simp (disch := first | omega | (simp only [List.length_cons, List.length_nil, true_and, and_true, nx_push, nx_put, nx_mark]; try omega)) only [go_sem, ↓reduceIte, Nat.reduceAdd, Nat.reduceMul, Nat.reduceSub, Int.reduceToNat, UInt8.reduceToNat, Nat.reduceLeDiff, Nat.reduceEqDiff, Nat.sub_zero, Int.add_zero, Int.zero_add, Nat.add_zero, Nat.zero_add, Nat.zero_mul, f1, f3, f12, f13, f14]
    exact atQ 85 rfl (k2 x _ H rfl hx ho)
  | cons w r ih =>
    intro i f H x hr hi hx hn hb ho hl f1 f3 f12 f13 f14 k1 k2
    simp at hi
    have hwi : ws[i]? = some w := by rw [← List.head?_drop, hr]; rfl
    have hr1 : ws.drop (i + 1) = r := by rw [← List.drop_drop, hr]; rfl
    have hwl := hlw w (List.mem_of_getElem? hwi)
    obtain ⟨id, p, c, y1, y2, y3, y4, y5, y6⟩ := (hv H hx).at_ hwi
    obtain ⟨u, ho, hu⟩ := ho
    simp only [Rword] at y2
    subst y2
    have hid := hx.wf id y6
    rw [w_loop]
    unfold lp__role_form_fill_0
    simp only [formC] at hb
    simp (disch := first | omega | (simp only [List.length_cons, List.length_nil, true_and, and_true, nx_push, nx_put, nx_mark]; try omega)) only [go_sem, ↓reduceIte, Nat.reduceAdd, Nat.reduceMul, Nat.reduceSub, Int.reduceToNat, UInt8.reduceToNat, Nat.reduceLeDiff, Nat.reduceEqDiff, Nat.sub_zero, Int.add_zero, Int.zero_add, Nat.add_zero, Nat.zero_add, Nat.zero_mul, f1, f3, f12, f13, f14, y1, y4, hb]
    generalize hH1 : ((H.push (AO.mem [AV.s [], AV.i IntKind.i64 0] 0 ty_api_Word true 0)).put H.next (AO.mem [AV.s w.1, AV.i IntKind.i64 w.2] 0 ty_api_Word true 0)) = H1
    have hE1 : Ext H.next H H1 := by rw [← hH1]; exact ((Ext.refl hx.wf).push _ (Nat.le_refl _)).put (Nat.le_refl _) (by simp) _
    have hn1 : H1.next = H.next + 1 := by rw [← hH1]; rfl
    have hg1 : H1.get H.next = .mem [.s w.1, .i .i64 w.2] 0 ty_api_Word true 0 := by rw [← hH1]; simp (disch := first | omega | (simp only [List.length_cons, List.length_nil, true_and, and_true, nx_push, nx_put, nx_mark]; try omega)) only [go_sem, ↓reduceIte, Nat.reduceAdd, Nat.reduceMul, Nat.reduceSub, Int.reduceToNat, UInt8.reduceToNat, Nat.reduceLeDiff, Nat.reduceEqDiff, Nat.sub_zero, Int.add_zero, Int.zero_add, Nat.add_zero, Nat.zero_add, Nat.zero_mul]
    have hm1 := hx.next
    have ho1 := hE1.of ho (by omega)
    have hb1 := hE1.of hb (by omega)
    have hx1 := hx.trans hE1 (by omega)
    have hu1 := hu.grow Rs_mono hx.wf hE1 (Nat.le_refl _)
    clear hH1
    have next : ∀ (x' : FactT) (f' : Nat → AV) (H' : Mem), fillF F i (w :: r) x = fillF F (i + 1) r x' → Ext m H0 H' → n ≤ H'.next → H'.get bx = .mem (formC F) 0 ty_role_form true 0 → FO n o x' H' → x'.L.length ≤ i + 1 → f' 1 = .p (some (o, 0)) → f' 3 = .p (some (bx, 0)) → f' 12 = v → f' 13 = .i .i64 ws.length → f' 14 = .i .i64 ((i : Int) + 1) → @W S false (.loop lp__role_form_fill_0) (trO 85 f') H' ⟨Q⟩ := fun x' f' H' e a1 a2 a3 a4 a5 a6 a7 a8 a9 a10 =>
      ih (i + 1) f' H' x' hr1 (by omega) a1 a2 a3 a4 a5 a6 a7 a8 a9 a10 (fun q e2 f2 H2 b1 => k1 q e2 f2 H2 (e.trans b1)) (fun y f2 H2 b1 => k2 y f2 H2 (e.trans b1))
    by_cases hc : F.number = true ∧ (i : Int) = F.names
    · obtain ⟨hc1, hc2⟩ := hc
      have hf : fillF F i (w :: r) x = match numF w.1 with
          | some n => fillF F (i + 1) r { x with N := n }
          | none => .error (w.2, 9) := by rw [fillF, if_pos ⟨hc1, hc2⟩]
      simp (disch := first | omega | (simp only [List.length_cons, List.length_nil, true_and, and_true, nx_push, nx_put, nx_mark]; try omega)) only [go_sem, ↓reduceIte, Nat.reduceAdd, Nat.reduceMul, Nat.reduceSub, Int.reduceToNat, UInt8.reduceToNat, Nat.reduceLeDiff, Nat.reduceEqDiff, Nat.sub_zero, Int.add_zero, Int.zero_add, Nat.add_zero, Nat.zero_add, Nat.zero_mul, hc1, f1, f3, f12, f13, f14, hb1, hg1]
      refine number_run hwl hE1.wf (fun H2 x2 => ?_)
      have g2 := x2.of hg1 (by omega)
      have b2 := x2.of hb1 (by omega)
      have o2 := x2.of ho1 (by omega)
      have n2 := x2.next
      have hx2 := hx1.trans x2 (by omega)
      have hu2 := hu1.grow Rs_mono hE1.wf x2 (Nat.le_refl _)
      cases hnum : numF w.1 with
      | none =>
        rw [hnum] at hf
        simp only [numT]
        simp (disch := first | omega | (simp only [List.length_cons, List.length_nil, true_and, and_true, nx_push, nx_put, nx_mark]; try omega)) only [go_sem, ↓reduceIte, Nat.reduceAdd, Nat.reduceMul, Nat.reduceSub, Int.reduceToNat, UInt8.reduceToNat, Nat.reduceLeDiff, Nat.reduceEqDiff, Nat.sub_zero, Int.add_zero, Int.zero_add, Nat.add_zero, Nat.zero_add, Nat.zero_mul, g2]
        exact atQ 85 rfl (k1 _ _ _ H2 hf rfl rfl hx2)
      | some k =>
        rw [hnum] at hf
        simp only [numT]
        simp only [factC] at o2
        simp (disch := first | omega | (simp only [List.length_cons, List.length_nil, true_and, and_true, nx_push, nx_put, nx_mark]; try omega)) only [go_sem, ↓reduceIte, Nat.reduceAdd, Nat.reduceMul, Nat.reduceSub, Int.reduceToNat, UInt8.reduceToNat, Nat.reduceLeDiff, Nat.reduceEqDiff, Nat.sub_zero, Int.add_zero, Int.zero_add, Nat.add_zero, Nat.zero_add, Nat.zero_mul, g2, o2]
        refine atW 85 rfl (next _ _ _ hf (hx2.put hmo (by omega) _) (by simp; omega) (by simp (disch := first | omega | (simp only [List.length_cons, List.length_nil, true_and, and_true, nx_push, nx_put, nx_mark]; try omega)) only [go_sem, ↓reduceIte, Nat.reduceAdd, Nat.reduceMul, Nat.reduceSub, Int.reduceToNat, UInt8.reduceToNat, Nat.reduceLeDiff, Nat.reduceEqDiff, Nat.sub_zero, Int.add_zero, Int.zero_add, Nat.add_zero, Nat.zero_add, Nat.zero_mul, b2]; rfl) ⟨u, by simp (disch := first | omega | (simp only [List.length_cons, List.length_nil, true_and, and_true, nx_push, nx_put, nx_mark]; try omega)) only [go_sem, ↓reduceIte, Nat.reduceAdd, Nat.reduceMul, Nat.reduceSub, Int.reduceToNat, UInt8.reduceToNat, Nat.reduceLeDiff, Nat.reduceEqDiff, Nat.sub_zero, Int.add_zero, Int.zero_add, Nat.add_zero, Nat.zero_add, Nat.zero_mul, factC], hu2.put (by omega)⟩ (by simp; omega) rfl rfl rfl rfl rfl)
    · have hf : fillF F i (w :: r) x = if isName w.1 = true then fillF F (i + 1) r (putN i F.names w.1 x) else .error (w.2, 15) := by rw [fillF, if_neg hc]
      have skip : ∀ P : Prop, (F.number = false → P) → (F.number = true → ¬ (i : Int) = F.names → P) → P := fun P h1 h2 => by
        cases hq : F.number with
        | false => exact h1 hq
        | true => exact h2 hq (fun e => hc ⟨hq, e⟩)
      have ho2 := ho1
      simp only [factC] at ho2
      have u1 := hu1.one
      refine skip _ (fun hq => ?_) (fun hq hq2 => ?_)
      · simp (disch := first | omega | (simp only [List.length_cons, List.length_nil, true_and, and_true, nx_push, nx_put, nx_mark]; try omega)) only [go_sem, ↓reduceIte, Nat.reduceAdd, Nat.reduceMul, Nat.reduceSub, Int.reduceToNat, UInt8.reduceToNat, Nat.reduceLeDiff, Nat.reduceEqDiff, Nat.sub_zero, Int.add_zero, Int.zero_add, Nat.add_zero, Nat.zero_add, Nat.zero_mul, hq, f1, f3, f12, f13, f14, hb1, hg1]
        cases hnm : isName w.1 with
        | false =>
          rw [hnm] at hf
          simp (disch := first | omega | (simp only [List.length_cons, List.length_nil, true_and, and_true, nx_push, nx_put, nx_mark]; try omega)) only [go_sem, ↓reduceIte, Nat.reduceAdd, Nat.reduceMul, Nat.reduceSub, Int.reduceToNat, UInt8.reduceToNat, Nat.reduceLeDiff, Nat.reduceEqDiff, Nat.sub_zero, Int.add_zero, Int.zero_add, Nat.add_zero, Nat.zero_add, Nat.zero_mul, f1, f3, f12, f13, f14, hb1, hg1]
          exact atQ 85 rfl (k1 _ _ _ H1 hf rfl rfl hx1)
        | true =>
          rw [hnm] at hf
          simp only [if_true] at hf
          simp (disch := first | omega | (simp only [List.length_cons, List.length_nil, true_and, and_true, nx_push, nx_put, nx_mark]; try omega)) only [go_sem, ↓reduceIte, Nat.reduceAdd, Nat.reduceMul, Nat.reduceSub, Int.reduceToNat, UInt8.reduceToNat, Nat.reduceLeDiff, Nat.reduceEqDiff, Nat.sub_zero, Int.add_zero, Int.zero_add, Nat.add_zero, Nat.zero_add, Nat.zero_mul, f1, f3, f12, f13, f14, hb1, hg1]
          by_cases c1 : F.names ≤ (i : Int)
          · rw [putN, if_pos c1] at hf
            simp (disch := first | omega | (simp only [List.length_cons, List.length_nil, true_and, and_true, nx_push, nx_put, nx_mark]; try omega)) only [go_sem, ↓reduceIte, Nat.reduceAdd, Nat.reduceMul, Nat.reduceSub, Int.reduceToNat, UInt8.reduceToNat, Nat.reduceLeDiff, Nat.reduceEqDiff, Nat.sub_zero, Int.add_zero, Int.zero_add, Nat.add_zero, Nat.zero_add, Nat.zero_mul, f1, f3, f12, f13, f14, hb1, hg1]
            refine w_dregA rfl rfl ?_
            simp (disch := first | omega | (simp only [List.length_cons, List.length_nil, true_and, and_true, nx_push, nx_put, nx_mark]; try omega)) only [go_sem, ↓reduceIte, Nat.reduceAdd, Nat.reduceMul, Nat.reduceSub, Int.reduceToNat, UInt8.reduceToNat, Nat.reduceLeDiff, Nat.reduceEqDiff, Nat.sub_zero, Int.add_zero, Int.zero_add, Nat.add_zero, Nat.zero_add, Nat.zero_mul, f1, f3, f12, f13, f14, hb1, hg1, ho2]
            refine onE_of (SlO.app1 (x := w.1) Rs_mono hu1 hE1.wf (by omega) (Ext.refl hE1.wf) rfl rfl rfl (by omega) rfl (by omega) (by omega)) (fun v' H2 hh => ?_)
            obtain ⟨hO2, hX2, hN2⟩ := hh
            have o2 := hX2.of ho2 (by omega)
            have b2 := hX2.of hb1 (by omega)
            have v1 := hO2.one
            have vc := cells_of_one v1
            simp (disch := first | omega | (simp only [List.length_cons, List.length_nil, true_and, and_true, nx_push, nx_put, nx_mark]; try omega)) only [go_sem, ↓reduceIte, Nat.reduceAdd, Nat.reduceMul, Nat.reduceSub, Int.reduceToNat, UInt8.reduceToNat, Nat.reduceLeDiff, Nat.reduceEqDiff, Nat.sub_zero, Int.add_zero, Int.zero_add, Nat.add_zero, Nat.zero_add, Nat.zero_mul, o2, v1, vc, ho2, hg1]
            refine atW 85 rfl (next _ _ _ hf ((hx1.trans hX2 (by omega)).put hmo (by omega) _) (by simp; omega) (by simp (disch := first | omega | (simp only [List.length_cons, List.length_nil, true_and, and_true, nx_push, nx_put, nx_mark]; try omega)) only [go_sem, ↓reduceIte, Nat.reduceAdd, Nat.reduceMul, Nat.reduceSub, Int.reduceToNat, UInt8.reduceToNat, Nat.reduceLeDiff, Nat.reduceEqDiff, Nat.sub_zero, Int.add_zero, Int.zero_add, Nat.add_zero, Nat.zero_add, Nat.zero_mul, b2]; rfl) ⟨v', by simp (disch := first | omega | (simp only [List.length_cons, List.length_nil, true_and, and_true, nx_push, nx_put, nx_mark]; try omega)) only [go_sem, ↓reduceIte, Nat.reduceAdd, Nat.reduceMul, Nat.reduceSub, Int.reduceToNat, UInt8.reduceToNat, Nat.reduceLeDiff, Nat.reduceEqDiff, Nat.sub_zero, Int.add_zero, Int.zero_add, Nat.add_zero, Nat.zero_add, Nat.zero_mul, factC], hO2.put (by omega)⟩ (by simp; omega) rfl rfl rfl rfl rfl)
          · rw [putN, if_neg c1] at hf
            simp (disch := first | omega | (simp only [List.length_cons, List.length_nil, true_and, and_true, nx_push, nx_put, nx_mark]; try omega)) only [go_sem, ↓reduceIte, Nat.reduceAdd, Nat.reduceMul, Nat.reduceSub, Int.reduceToNat, UInt8.reduceToNat, Nat.reduceLeDiff, Nat.reduceEqDiff, Nat.sub_zero, Int.add_zero, Int.zero_add, Nat.add_zero, Nat.zero_add, Nat.zero_mul, f1, f3, f12, f13, f14, hb1, hg1]
            by_cases c2 : (i : Int) = 0
            · rw [if_pos c2] at hf
              simp (disch := first | omega | (simp only [List.length_cons, List.length_nil, true_and, and_true, nx_push, nx_put, nx_mark]; try omega)) only [go_sem, ↓reduceIte, Nat.reduceAdd, Nat.reduceMul, Nat.reduceSub, Int.reduceToNat, UInt8.reduceToNat, Nat.reduceLeDiff, Nat.reduceEqDiff, Nat.sub_zero, Int.add_zero, Int.zero_add, Nat.add_zero, Nat.zero_add, Nat.zero_mul, f1, f3, f12, f13, f14, hb1, hg1, ho2]
              refine atW 85 rfl (next _ _ _ hf (hx1.put hmo (by omega) _) (by simp; omega) (by simp (disch := first | omega | (simp only [List.length_cons, List.length_nil, true_and, and_true, nx_push, nx_put, nx_mark]; try omega)) only [go_sem, ↓reduceIte, Nat.reduceAdd, Nat.reduceMul, Nat.reduceSub, Int.reduceToNat, UInt8.reduceToNat, Nat.reduceLeDiff, Nat.reduceEqDiff, Nat.sub_zero, Int.add_zero, Int.zero_add, Nat.add_zero, Nat.zero_add, Nat.zero_mul, hb1]; rfl) ⟨u, by simp (disch := first | omega | (simp only [List.length_cons, List.length_nil, true_and, and_true, nx_push, nx_put, nx_mark]; try omega)) only [go_sem, ↓reduceIte, Nat.reduceAdd, Nat.reduceMul, Nat.reduceSub, Int.reduceToNat, UInt8.reduceToNat, Nat.reduceLeDiff, Nat.reduceEqDiff, Nat.sub_zero, Int.add_zero, Int.zero_add, Nat.add_zero, Nat.zero_add, Nat.zero_mul, factC], hu1.put (by omega)⟩ (Nat.le_succ_of_le hl) rfl rfl rfl rfl rfl)
            · rw [if_neg c2] at hf
              simp (disch := first | omega | (simp only [List.length_cons, List.length_nil, true_and, and_true, nx_push, nx_put, nx_mark]; try omega)) only [go_sem, ↓reduceIte, Nat.reduceAdd, Nat.reduceMul, Nat.reduceSub, Int.reduceToNat, UInt8.reduceToNat, Nat.reduceLeDiff, Nat.reduceEqDiff, Nat.sub_zero, Int.add_zero, Int.zero_add, Nat.add_zero, Nat.zero_add, Nat.zero_mul, f1, f3, f12, f13, f14, hb1, hg1, ho2]
              by_cases c3 : (i : Int) = 1
              · rw [if_pos c3] at hf
                simp (disch := first | omega | (simp only [List.length_cons, List.length_nil, true_and, and_true, nx_push, nx_put, nx_mark]; try omega)) only [go_sem, ↓reduceIte, Nat.reduceAdd, Nat.reduceMul, Nat.reduceSub, Int.reduceToNat, UInt8.reduceToNat, Nat.reduceLeDiff, Nat.reduceEqDiff, Nat.sub_zero, Int.add_zero, Int.zero_add, Nat.add_zero, Nat.zero_add, Nat.zero_mul, f1, f3, f12, f13, f14, hb1, hg1, ho2]
                refine atW 85 rfl (next _ _ _ hf (hx1.put hmo (by omega) _) (by simp; omega) (by simp (disch := first | omega | (simp only [List.length_cons, List.length_nil, true_and, and_true, nx_push, nx_put, nx_mark]; try omega)) only [go_sem, ↓reduceIte, Nat.reduceAdd, Nat.reduceMul, Nat.reduceSub, Int.reduceToNat, UInt8.reduceToNat, Nat.reduceLeDiff, Nat.reduceEqDiff, Nat.sub_zero, Int.add_zero, Int.zero_add, Nat.add_zero, Nat.zero_add, Nat.zero_mul, hb1]; rfl) ⟨u, by simp (disch := first | omega | (simp only [List.length_cons, List.length_nil, true_and, and_true, nx_push, nx_put, nx_mark]; try omega)) only [go_sem, ↓reduceIte, Nat.reduceAdd, Nat.reduceMul, Nat.reduceSub, Int.reduceToNat, UInt8.reduceToNat, Nat.reduceLeDiff, Nat.reduceEqDiff, Nat.sub_zero, Int.add_zero, Int.zero_add, Nat.add_zero, Nat.zero_add, Nat.zero_mul, factC], hu1.put (by omega)⟩ (Nat.le_succ_of_le hl) rfl rfl rfl rfl rfl)
              · rw [if_neg c3] at hf
                simp (disch := first | omega | (simp only [List.length_cons, List.length_nil, true_and, and_true, nx_push, nx_put, nx_mark]; try omega)) only [go_sem, ↓reduceIte, Nat.reduceAdd, Nat.reduceMul, Nat.reduceSub, Int.reduceToNat, UInt8.reduceToNat, Nat.reduceLeDiff, Nat.reduceEqDiff, Nat.sub_zero, Int.add_zero, Int.zero_add, Nat.add_zero, Nat.zero_add, Nat.zero_mul, f1, f3, f12, f13, f14, hb1, hg1, ho2]
                refine atW 85 rfl (next _ _ _ hf (hx1.put hmo (by omega) _) (by simp; omega) (by simp (disch := first | omega | (simp only [List.length_cons, List.length_nil, true_and, and_true, nx_push, nx_put, nx_mark]; try omega)) only [go_sem, ↓reduceIte, Nat.reduceAdd, Nat.reduceMul, Nat.reduceSub, Int.reduceToNat, UInt8.reduceToNat, Nat.reduceLeDiff, Nat.reduceEqDiff, Nat.sub_zero, Int.add_zero, Int.zero_add, Nat.add_zero, Nat.zero_add, Nat.zero_mul, hb1]; rfl) ⟨u, by simp (disch := first | omega | (simp only [List.length_cons, List.length_nil, true_and, and_true, nx_push, nx_put, nx_mark]; try omega)) only [go_sem, ↓reduceIte, Nat.reduceAdd, Nat.reduceMul, Nat.reduceSub, Int.reduceToNat, UInt8.reduceToNat, Nat.reduceLeDiff, Nat.reduceEqDiff, Nat.sub_zero, Int.add_zero, Int.zero_add, Nat.add_zero, Nat.zero_add, Nat.zero_mul, factC], hu1.put (by omega)⟩ (Nat.le_succ_of_le hl) rfl rfl rfl rfl rfl)
      · simp (disch := first | omega | (simp only [List.length_cons, List.length_nil, true_and, and_true, nx_push, nx_put, nx_mark]; try omega)) only [go_sem, ↓reduceIte, Nat.reduceAdd, Nat.reduceMul, Nat.reduceSub, Int.reduceToNat, UInt8.reduceToNat, Nat.reduceLeDiff, Nat.reduceEqDiff, Nat.sub_zero, Int.add_zero, Int.zero_add, Nat.add_zero, Nat.zero_add, Nat.zero_mul, hq, f1, f3, f12, f13, f14, hb1, hg1]
        cases hnm : isName w.1 with
        | false =>
          rw [hnm] at hf
          simp (disch := first | omega | (simp only [List.length_cons, List.length_nil, true_and, and_true, nx_push, nx_put, nx_mark]; try omega)) only [go_sem, ↓reduceIte, Nat.reduceAdd, Nat.reduceMul, Nat.reduceSub, Int.reduceToNat, UInt8.reduceToNat, Nat.reduceLeDiff, Nat.reduceEqDiff, Nat.sub_zero, Int.add_zero, Int.zero_add, Nat.add_zero, Nat.zero_add, Nat.zero_mul, f1, f3, f12, f13, f14, hb1, hg1]
          exact atQ 85 rfl (k1 _ _ _ H1 hf rfl rfl hx1)
        | true =>
          rw [hnm] at hf
          simp only [if_true] at hf
          simp (disch := first | omega | (simp only [List.length_cons, List.length_nil, true_and, and_true, nx_push, nx_put, nx_mark]; try omega)) only [go_sem, ↓reduceIte, Nat.reduceAdd, Nat.reduceMul, Nat.reduceSub, Int.reduceToNat, UInt8.reduceToNat, Nat.reduceLeDiff, Nat.reduceEqDiff, Nat.sub_zero, Int.add_zero, Int.zero_add, Nat.add_zero, Nat.zero_add, Nat.zero_mul, f1, f3, f12, f13, f14, hb1, hg1]
          by_cases c1 : F.names ≤ (i : Int)
          · rw [putN, if_pos c1] at hf
            simp (disch := first | omega | (simp only [List.length_cons, List.length_nil, true_and, and_true, nx_push, nx_put, nx_mark]; try omega)) only [go_sem, ↓reduceIte, Nat.reduceAdd, Nat.reduceMul, Nat.reduceSub, Int.reduceToNat, UInt8.reduceToNat, Nat.reduceLeDiff, Nat.reduceEqDiff, Nat.sub_zero, Int.add_zero, Int.zero_add, Nat.add_zero, Nat.zero_add, Nat.zero_mul, f1, f3, f12, f13, f14, hb1, hg1]
            refine w_dregA rfl rfl ?_
            simp (disch := first | omega | (simp only [List.length_cons, List.length_nil, true_and, and_true, nx_push, nx_put, nx_mark]; try omega)) only [go_sem, ↓reduceIte, Nat.reduceAdd, Nat.reduceMul, Nat.reduceSub, Int.reduceToNat, UInt8.reduceToNat, Nat.reduceLeDiff, Nat.reduceEqDiff, Nat.sub_zero, Int.add_zero, Int.zero_add, Nat.add_zero, Nat.zero_add, Nat.zero_mul, f1, f3, f12, f13, f14, hb1, hg1, ho2]
            refine onE_of (SlO.app1 (x := w.1) Rs_mono hu1 hE1.wf (by omega) (Ext.refl hE1.wf) rfl rfl rfl (by omega) rfl (by omega) (by omega)) (fun v' H2 hh => ?_)
            obtain ⟨hO2, hX2, hN2⟩ := hh
            have o2 := hX2.of ho2 (by omega)
            have b2 := hX2.of hb1 (by omega)
            have v1 := hO2.one
            have vc := cells_of_one v1
            simp (disch := first | omega | (simp only [List.length_cons, List.length_nil, true_and, and_true, nx_push, nx_put, nx_mark]; try omega)) only [go_sem, ↓reduceIte, Nat.reduceAdd, Nat.reduceMul, Nat.reduceSub, Int.reduceToNat, UInt8.reduceToNat, Nat.reduceLeDiff, Nat.reduceEqDiff, Nat.sub_zero, Int.add_zero, Int.zero_add, Nat.add_zero, Nat.zero_add, Nat.zero_mul, o2, v1, vc, ho2, hg1]
            refine atW 85 rfl (next _ _ _ hf ((hx1.trans hX2 (by omega)).put hmo (by omega) _) (by simp; omega) (by simp (disch := first | omega | (simp only [List.length_cons, List.length_nil, true_and, and_true, nx_push, nx_put, nx_mark]; try omega)) only [go_sem, ↓reduceIte, Nat.reduceAdd, Nat.reduceMul, Nat.reduceSub, Int.reduceToNat, UInt8.reduceToNat, Nat.reduceLeDiff, Nat.reduceEqDiff, Nat.sub_zero, Int.add_zero, Int.zero_add, Nat.add_zero, Nat.zero_add, Nat.zero_mul, b2]; rfl) ⟨v', by simp (disch := first | omega | (simp only [List.length_cons, List.length_nil, true_and, and_true, nx_push, nx_put, nx_mark]; try omega)) only [go_sem, ↓reduceIte, Nat.reduceAdd, Nat.reduceMul, Nat.reduceSub, Int.reduceToNat, UInt8.reduceToNat, Nat.reduceLeDiff, Nat.reduceEqDiff, Nat.sub_zero, Int.add_zero, Int.zero_add, Nat.add_zero, Nat.zero_add, Nat.zero_mul, factC], hO2.put (by omega)⟩ (by simp; omega) rfl rfl rfl rfl rfl)
          · rw [putN, if_neg c1] at hf
            simp (disch := first | omega | (simp only [List.length_cons, List.length_nil, true_and, and_true, nx_push, nx_put, nx_mark]; try omega)) only [go_sem, ↓reduceIte, Nat.reduceAdd, Nat.reduceMul, Nat.reduceSub, Int.reduceToNat, UInt8.reduceToNat, Nat.reduceLeDiff, Nat.reduceEqDiff, Nat.sub_zero, Int.add_zero, Int.zero_add, Nat.add_zero, Nat.zero_add, Nat.zero_mul, f1, f3, f12, f13, f14, hb1, hg1]
            by_cases c2 : (i : Int) = 0
            · rw [if_pos c2] at hf
              simp (disch := first | omega | (simp only [List.length_cons, List.length_nil, true_and, and_true, nx_push, nx_put, nx_mark]; try omega)) only [go_sem, ↓reduceIte, Nat.reduceAdd, Nat.reduceMul, Nat.reduceSub, Int.reduceToNat, UInt8.reduceToNat, Nat.reduceLeDiff, Nat.reduceEqDiff, Nat.sub_zero, Int.add_zero, Int.zero_add, Nat.add_zero, Nat.zero_add, Nat.zero_mul, f1, f3, f12, f13, f14, hb1, hg1, ho2]
              refine atW 85 rfl (next _ _ _ hf (hx1.put hmo (by omega) _) (by simp; omega) (by simp (disch := first | omega | (simp only [List.length_cons, List.length_nil, true_and, and_true, nx_push, nx_put, nx_mark]; try omega)) only [go_sem, ↓reduceIte, Nat.reduceAdd, Nat.reduceMul, Nat.reduceSub, Int.reduceToNat, UInt8.reduceToNat, Nat.reduceLeDiff, Nat.reduceEqDiff, Nat.sub_zero, Int.add_zero, Int.zero_add, Nat.add_zero, Nat.zero_add, Nat.zero_mul, hb1]; rfl) ⟨u, by simp (disch := first | omega | (simp only [List.length_cons, List.length_nil, true_and, and_true, nx_push, nx_put, nx_mark]; try omega)) only [go_sem, ↓reduceIte, Nat.reduceAdd, Nat.reduceMul, Nat.reduceSub, Int.reduceToNat, UInt8.reduceToNat, Nat.reduceLeDiff, Nat.reduceEqDiff, Nat.sub_zero, Int.add_zero, Int.zero_add, Nat.add_zero, Nat.zero_add, Nat.zero_mul, factC], hu1.put (by omega)⟩ (Nat.le_succ_of_le hl) rfl rfl rfl rfl rfl)
            · rw [if_neg c2] at hf
              simp (disch := first | omega | (simp only [List.length_cons, List.length_nil, true_and, and_true, nx_push, nx_put, nx_mark]; try omega)) only [go_sem, ↓reduceIte, Nat.reduceAdd, Nat.reduceMul, Nat.reduceSub, Int.reduceToNat, UInt8.reduceToNat, Nat.reduceLeDiff, Nat.reduceEqDiff, Nat.sub_zero, Int.add_zero, Int.zero_add, Nat.add_zero, Nat.zero_add, Nat.zero_mul, f1, f3, f12, f13, f14, hb1, hg1, ho2]
              by_cases c3 : (i : Int) = 1
              · rw [if_pos c3] at hf
                simp (disch := first | omega | (simp only [List.length_cons, List.length_nil, true_and, and_true, nx_push, nx_put, nx_mark]; try omega)) only [go_sem, ↓reduceIte, Nat.reduceAdd, Nat.reduceMul, Nat.reduceSub, Int.reduceToNat, UInt8.reduceToNat, Nat.reduceLeDiff, Nat.reduceEqDiff, Nat.sub_zero, Int.add_zero, Int.zero_add, Nat.add_zero, Nat.zero_add, Nat.zero_mul, f1, f3, f12, f13, f14, hb1, hg1, ho2]
                refine atW 85 rfl (next _ _ _ hf (hx1.put hmo (by omega) _) (by simp; omega) (by simp (disch := first | omega | (simp only [List.length_cons, List.length_nil, true_and, and_true, nx_push, nx_put, nx_mark]; try omega)) only [go_sem, ↓reduceIte, Nat.reduceAdd, Nat.reduceMul, Nat.reduceSub, Int.reduceToNat, UInt8.reduceToNat, Nat.reduceLeDiff, Nat.reduceEqDiff, Nat.sub_zero, Int.add_zero, Int.zero_add, Nat.add_zero, Nat.zero_add, Nat.zero_mul, hb1]; rfl) ⟨u, by simp (disch := first | omega | (simp only [List.length_cons, List.length_nil, true_and, and_true, nx_push, nx_put, nx_mark]; try omega)) only [go_sem, ↓reduceIte, Nat.reduceAdd, Nat.reduceMul, Nat.reduceSub, Int.reduceToNat, UInt8.reduceToNat, Nat.reduceLeDiff, Nat.reduceEqDiff, Nat.sub_zero, Int.add_zero, Int.zero_add, Nat.add_zero, Nat.zero_add, Nat.zero_mul, factC], hu1.put (by omega)⟩ (Nat.le_succ_of_le hl) rfl rfl rfl rfl rfl)
              · rw [if_neg c3] at hf
                simp (disch := first | omega | (simp only [List.length_cons, List.length_nil, true_and, and_true, nx_push, nx_put, nx_mark]; try omega)) only [go_sem, ↓reduceIte, Nat.reduceAdd, Nat.reduceMul, Nat.reduceSub, Int.reduceToNat, UInt8.reduceToNat, Nat.reduceLeDiff, Nat.reduceEqDiff, Nat.sub_zero, Int.add_zero, Int.zero_add, Nat.add_zero, Nat.zero_add, Nat.zero_mul, f1, f3, f12, f13, f14, hb1, hg1, ho2]
                refine atW 85 rfl (next _ _ _ hf (hx1.put hmo (by omega) _) (by simp; omega) (by simp (disch := first | omega | (simp only [List.length_cons, List.length_nil, true_and, and_true, nx_push, nx_put, nx_mark]; try omega)) only [go_sem, ↓reduceIte, Nat.reduceAdd, Nat.reduceMul, Nat.reduceSub, Int.reduceToNat, UInt8.reduceToNat, Nat.reduceLeDiff, Nat.reduceEqDiff, Nat.sub_zero, Int.add_zero, Int.zero_add, Nat.add_zero, Nat.zero_add, Nat.zero_mul, hb1]; rfl) ⟨u, by simp (disch := first | omega | (simp only [List.length_cons, List.length_nil, true_and, and_true, nx_push, nx_put, nx_mark]; try omega)) only [go_sem, ↓reduceIte, Nat.reduceAdd, Nat.reduceMul, Nat.reduceSub, Int.reduceToNat, UInt8.reduceToNat, Nat.reduceLeDiff, Nat.reduceEqDiff, Nat.sub_zero, Int.add_zero, Int.zero_add, Nat.add_zero, Nat.zero_add, Nat.zero_mul, factC], hu1.put (by omega)⟩ (Nat.le_succ_of_le hl) rfl rfl rfl rfl rfl)
theorem fill_run {m o : Nat} {F : Form} {v : AV} {ws : List WordT} {x : FactT} (hv : ∀ H', Ext m H H' → SlR 2 Rword H'.get v ws) (hw : Wf H) (hmo : m ≤ o) (hoH : o < H.next) (hln : ws.length ≤ 1000000) (hlw : ∀ w ∈ ws, w.1.length ≤ 1000000) (ho : H.get o = .mem (factC x .nsl) 0 ty_api_Fact true 0) (hx : x.L = [])
    (k1 : ∀ q e H', fillF F 0 ws x = .error (q, e) → Ext m H H' → K (.tup [.i .i64 q, .i .i64 e]) H')
    (k2 : ∀ y H', fillF F 0 ws x = .ok y → Ext m H H' → FO (o + 1) o y H' → K (.tup [.i .i64 0, .i .i64 0]) H') : @R S (.f n__role_form_fill) [.agg (formC F), .p (some (o, 0)), v] H ⟨K⟩ := by
  refine run_fn2 rfl rfl ?_
  unfold bd__role_form_fill
  have l0 := (hv H (Ext.refl hw)).len
  have fall : (formC F).all AV.one = true := rfl
  simp (disch := first | omega | (simp only [List.length_cons, List.length_nil, true_and, and_true, nx_push, nx_put, nx_mark]; try omega)) only [go_sem, ↓reduceIte, Nat.reduceAdd, Nat.reduceMul, Nat.reduceSub, Int.reduceToNat, UInt8.reduceToNat, Nat.reduceLeDiff, Nat.reduceEqDiff, Nat.sub_zero, Int.add_zero, Int.zero_add, Nat.add_zero, Nat.zero_add, Nat.zero_mul, fall, l0]
  have hm : m ≤ H.next := by omega
  have hx0 : Ext m (H.mark []) ((H.mark []).push (.mem (formC F) 0 ty_role_form true 0)) := (Ext.refl (H := H.mark []) hw).push _ hm
  refine atW 85 rfl (fill_loop (m := m) (n := H.next + 1) (o := o) (bx := H.next) (F := F) (H0 := H.mark []) (ws := ws) (fun H' x => hv (H'.mark H.marks) (Ext.mark x)) hmo (by omega) hm (by omega) (by omega) hln hlw ws 0 _ _ x rfl (by simp) hx0 (by simp) (by simp (disch := first | omega | (simp only [List.length_cons, List.length_nil, true_and, and_true, nx_push, nx_put, nx_mark]; try omega)) only [go_sem, ↓reduceIte, Nat.reduceAdd, Nat.reduceMul, Nat.reduceSub, Int.reduceToNat, UInt8.reduceToNat, Nat.reduceLeDiff, Nat.reduceEqDiff, Nat.sub_zero, Int.add_zero, Int.zero_add, Nat.add_zero, Nat.zero_add, Nat.zero_mul]) ⟨.nsl, by simp (disch := first | omega | (simp only [List.length_cons, List.length_nil, true_and, and_true, nx_push, nx_put, nx_mark]; try omega)) only [go_sem, ↓reduceIte, Nat.reduceAdd, Nat.reduceMul, Nat.reduceSub, Int.reduceToNat, UInt8.reduceToNat, Nat.reduceLeDiff, Nat.reduceEqDiff, Nat.sub_zero, Int.add_zero, Int.zero_add, Nat.add_zero, Nat.zero_add, Nat.zero_mul, ho], by rw [hx]; exact SlO.nil⟩ (by simp [hx]) rfl rfl rfl rfl rfl (fun q e f' H' a b1 b2 c => ?_) (fun y f' H' a b c => ?_))
  · have hm' : H'.marks = [] := c.marks
    simp (disch := first | omega | (simp only [List.length_cons, List.length_nil, true_and, and_true, nx_push, nx_put, nx_mark]; try omega)) only [go_sem, ↓reduceIte, Nat.reduceAdd, Nat.reduceMul, Nat.reduceSub, Int.reduceToNat, UInt8.reduceToNat, Nat.reduceLeDiff, Nat.reduceEqDiff, Nat.sub_zero, Int.add_zero, Int.zero_add, Nat.add_zero, Nat.zero_add, Nat.zero_mul, hm', b1, b2]
    exact k1 q e _ a (Ext.mark c)
  · have hm' : H'.marks = [] := b.marks
    simp (disch := first | omega | (simp only [List.length_cons, List.length_nil, true_and, and_true, nx_push, nx_put, nx_mark]; try omega)) only [go_sem, ↓reduceIte, Nat.reduceAdd, Nat.reduceMul, Nat.reduceSub, Int.reduceToNat, UInt8.reduceToNat, Nat.reduceLeDiff, Nat.reduceEqDiff, Nat.sub_zero, Int.add_zero, Int.zero_add, Nat.add_zero, Nat.zero_add, Nat.zero_mul, hm']
    obtain ⟨u, c1, c2⟩ := c
    exact k2 y _ a (Ext.mark b) ⟨u, c1, c2.down Rs_mono (by omega)⟩
def Rfact : Gt → List AV → FactT → Prop := fun G c x => ∃ u, c = factC x u ∧ SlR 1 Rs G u x.L
theorem Rfact_mono : Mono Rfact := fun _ _ _ _ k ⟨u, e, h⟩ => ⟨u, e, h.mono Rs_mono k⟩
theorem res3ctt {env : Tr} {p q r : Pth} {a : Bool} {i : Nat} : resA env H [.cell p a i, .t q, .t r] = tup3 (loadS H a i (env.get p)) (some (env.get q)) (some (env.get r)) := by
  have e : resA1 env H (.cell p a i) = loadS H a i (env.get p) := rfl
  have e2 : resA1 env H (.t q) = some (env.get q) := rfl
  have e3 : resA1 env H (.t r) = some (env.get r) := rfl
  unfold resA
  simp only [mapO, e, e2, e3]
  cases loadS H a i (env.get p) <;> rfl
def factF : LineT → FactT × Int × Int
  | (at_, []) => (fact0, at_, 9)
  | (at_, w :: r) => match formF w.1 with
    | none => (fact0, w.2, 9)
    | some F => if (r.length : Int) < F.least ∨ F.most < (r.length : Int) then (fact0, w.2, 9) else match fillF F 0 r ⟨F.kind, [], [], [], 0, [], at_⟩ with
      | .error (q, e) => (fact0, q, e)
      | .ok y => (y, 0, 0)
theorem fillF_err {F : Form} : ∀ {ws : List WordT} {i : Nat} {x : FactT} {q e : Int}, fillF F i ws x = .error (q, e) → e = 9 ∨ e = 15
  | [], _, _, _, _, h => by simp [fillF] at h
  | w :: r, i, x, q, e, h => by
    rw [fillF] at h
    split at h
    · split at h
      · exact fillF_err h
      · injection h with h; injection h with h1 h2; exact .inl h2.symm
    · split at h
      · exact fillF_err h
      · injection h with h; injection h with h1 h2; exact .inr h2.symm
theorem Fact_run {at_ : Int} {v : AV} {ws : List WordT} (hv : SlR 2 Rword H.get v ws) (hw : Wf H) (hln : ws.length ≤ 1000000) (hlw : ∀ w ∈ ws, w.1.length ≤ 1000000)
    (h : ∀ c H', Ext H.next H H' → Rfact (sn H.next H') c (factF (at_, ws)).1 → K (.tup [.agg c, .i .i64 (factF (at_, ws)).2.1, .i .i64 (factF (at_, ws)).2.2]) H') : @R S (.f n_role_Fact) [.agg [.i .i64 at_, v]] H ⟨K⟩ := by
  refine run_fn2 rfl rfl ?_
  unfold bd_role_Fact
  have l0 := hv.len
  have v1 := hv.one
  have z : ∀ G, Rfact G (factC fact0 .nsl) fact0 := fun G => ⟨.nsl, rfl, SlR.nil⟩
  simp (disch := first | omega | (simp only [List.length_cons, List.length_nil, true_and, and_true, nx_push, nx_put, nx_mark]; try omega)) only [go_sem, ↓reduceIte, Nat.reduceAdd, Nat.reduceMul, Nat.reduceSub, Int.reduceToNat, UInt8.reduceToNat, Nat.reduceLeDiff, Nat.reduceEqDiff, Nat.sub_zero, Int.add_zero, Int.zero_add, Nat.add_zero, Nat.zero_add, Nat.zero_mul, l0, v1]
  cases ws with
  | nil =>
    simp (disch := first | omega | (simp only [List.length_cons, List.length_nil, true_and, and_true, nx_push, nx_put, nx_mark]; try omega)) only [go_sem, ↓reduceIte, Nat.reduceAdd, Nat.reduceMul, Nat.reduceSub, Int.reduceToNat, UInt8.reduceToNat, Nat.reduceLeDiff, Nat.reduceEqDiff, Nat.sub_zero, Int.add_zero, Int.zero_add, Nat.add_zero, Nat.zero_add, Nat.zero_mul, l0]
    refine w_dregA rfl rfl ?_
    simp (disch := first | omega | (simp only [List.length_cons, List.length_nil, true_and, and_true, nx_push, nx_put, nx_mark]; try omega)) only [go_sem, ↓reduceIte, Nat.reduceAdd, Nat.reduceMul, Nat.reduceSub, Int.reduceToNat, UInt8.reduceToNat, Nat.reduceLeDiff, Nat.reduceEqDiff, Nat.sub_zero, Int.add_zero, Int.zero_add, Nat.add_zero, Nat.zero_add, Nat.zero_mul, res3ctt]
    exact h _ _ ((((Ext.refl hw).push _ (Nat.le_refl _)).push _ (by simp)).put (by omega) (by simp) _) (z _)
  | cons w r =>
    have hl1 : ((w :: r).length : Int) = (r.length : Int) + 1 := by simp
    obtain ⟨id, p, c, y1, y2, y3, y4, y5, y6⟩ := hv.at_ (j := 0) (x := w) rfl
    simp only [Rword] at y2
    subst y2
    have hid := hw id y6
    have z1 : ixVS 2 v (.i .i64 0) = some (.p (some (id, p))) := y1
    have z3 : ldO (H.get id) false 1 p = some (.s w.1) := y3 0 (by omega)
    have z4 : ldO (H.get id) false 1 (p + 1) = some (.i .i64 w.2) := y3 1 (by omega)
    simp (disch := first | omega | (simp only [List.length_cons, List.length_nil, true_and, and_true, nx_push, nx_put, nx_mark]; try omega)) only [go_sem, ↓reduceIte, Nat.reduceAdd, Nat.reduceMul, Nat.reduceSub, Int.reduceToNat, UInt8.reduceToNat, Nat.reduceLeDiff, Nat.reduceEqDiff, Nat.sub_zero, Int.add_zero, Int.zero_add, Nat.add_zero, Nat.zero_add, Nat.zero_mul, l0, hl1, z1, z3]
    generalize hH1 : (((H.mark []).push (AO.mem [AV.i IntKind.i64 at_, v] 0 ty_api_Line true 0)).push (AO.mem [AV.i IntKind.i64 0, AV.s [], AV.s [], AV.s [], AV.i IntKind.i64 0, AV.nsl, AV.i IntKind.i64 0] 0 ty_api_Fact true 0)) = H1
    have hE1 : Ext H.next (H.mark []) H1 := by rw [← hH1]; exact ((Ext.refl (H := H.mark []) hw).push _ (Nat.le_refl _)).push _ (by simp)
    have hn1 : H1.next = H.next + 2 := by rw [← hH1]; rfl
    have a1 : H1.get H.next = .mem [.i .i64 at_, v] 0 ty_api_Line true 0 := by rw [← hH1]; simp (disch := first | omega | (simp only [List.length_cons, List.length_nil, true_and, and_true, nx_push, nx_put, nx_mark]; try omega)) only [go_sem, ↓reduceIte, Nat.reduceAdd, Nat.reduceMul, Nat.reduceSub, Int.reduceToNat, UInt8.reduceToNat, Nat.reduceLeDiff, Nat.reduceEqDiff, Nat.sub_zero, Int.add_zero, Int.zero_add, Nat.add_zero, Nat.zero_add, Nat.zero_mul]
    have b1 : H1.get (H.next + 1) = .mem (factC fact0 .nsl) 0 ty_api_Fact true 0 := by rw [← hH1]; simp (disch := first | omega | (simp only [List.length_cons, List.length_nil, true_and, and_true, nx_push, nx_put, nx_mark]; try omega)) only [go_sem, ↓reduceIte, Nat.reduceAdd, Nat.reduceMul, Nat.reduceSub, Int.reduceToNat, UInt8.reduceToNat, Nat.reduceLeDiff, Nat.reduceEqDiff, Nat.sub_zero, Int.add_zero, Int.zero_add, Nat.add_zero, Nat.zero_add, Nat.zero_mul]; rfl
    clear hH1
    refine formOf_run hE1.wf (fun H2 x2 => ?_)
    have a2 := x2.of a1 (by omega)
    have b2 := x2.of b1 (by omega)
    have n2 := x2.next
    have hE2 := hE1.trans x2 (by omega)
    simp only [fact0, factC] at b2
    cases hF : formF w.1 with
    | none =>
      have e : factF (at_, w :: r) = (fact0, w.2, 9) := by simp only [factF, hF]
      rw [e] at h
      simp only [formV, Option.isSome_none]
      have hm2 : H2.marks = [] := hE2.marks
      simp (disch := first | omega | (simp only [List.length_cons, List.length_nil, true_and, and_true, nx_push, nx_put, nx_mark]; try omega)) only [go_sem, ↓reduceIte, Nat.reduceAdd, Nat.reduceMul, Nat.reduceSub, Int.reduceToNat, UInt8.reduceToNat, Nat.reduceLeDiff, Nat.reduceEqDiff, Nat.sub_zero, Int.add_zero, Int.zero_add, Nat.add_zero, Nat.zero_add, Nat.zero_mul, a2, b2, l0, hl1]
      refine w_dregA rfl rfl ?_
      have g2' : H2.get id = H.get id := hE2.get id hid
      simp (disch := first | omega | (simp only [List.length_cons, List.length_nil, true_and, and_true, nx_push, nx_put, nx_mark]; try omega)) only [go_sem, ↓reduceIte, Nat.reduceAdd, Nat.reduceMul, Nat.reduceSub, Int.reduceToNat, UInt8.reduceToNat, Nat.reduceLeDiff, Nat.reduceEqDiff, Nat.sub_zero, Int.add_zero, Int.zero_add, Nat.add_zero, Nat.zero_add, Nat.zero_mul, a2, b2, z1, g2', z4, hm2, res3ctt]
      exact h _ _ (((((Ext.mark hE2).push _ (by first | omega | (simp only [nx_push, nx_put, nx_mark]; try omega))).put (by first | omega | (simp only [nx_push, nx_put, nx_mark]; try omega)) (by first | omega | (simp only [nx_push, nx_put, nx_mark]; try omega)) _).put (by first | omega | (simp only [nx_push, nx_put, nx_mark]; try omega)) (by first | omega | (simp only [nx_push, nx_put, nx_mark]; try omega)) _)) (z _)
    | some F => 
      simp only [formV, Option.isSome_some]
      have hm2 : H2.marks = [] := hE2.marks
      have bad : (r.length : Int) < F.least ∨ F.most < (r.length : Int) → factF (at_, w :: r) = (fact0, w.2, 9) := fun hh => by simp only [factF, hF]; rw [if_pos hh]
      by_cases l1 : (r.length : Int) < F.least
      · rw [bad (.inl l1)] at h
        simp (disch := first | omega | (simp only [List.length_cons, List.length_nil, true_and, and_true, nx_push, nx_put, nx_mark]; try omega)) only [go_sem, ↓reduceIte, Nat.reduceAdd, Nat.reduceMul, Nat.reduceSub, Int.reduceToNat, UInt8.reduceToNat, Nat.reduceLeDiff, Nat.reduceEqDiff, Nat.sub_zero, Int.add_zero, Int.zero_add, Nat.add_zero, Nat.zero_add, Nat.zero_mul, a2, b2, l0, hl1]
        refine w_dregA rfl rfl ?_
        have g2' : H2.get id = H.get id := hE2.get id hid
        simp (disch := first | omega | (simp only [List.length_cons, List.length_nil, true_and, and_true, nx_push, nx_put, nx_mark]; try omega)) only [go_sem, ↓reduceIte, Nat.reduceAdd, Nat.reduceMul, Nat.reduceSub, Int.reduceToNat, UInt8.reduceToNat, Nat.reduceLeDiff, Nat.reduceEqDiff, Nat.sub_zero, Int.add_zero, Int.zero_add, Nat.add_zero, Nat.zero_add, Nat.zero_mul, a2, b2, z1, g2', z4, hm2, res3ctt]
        exact h _ _ (((((Ext.mark hE2).push _ (by first | omega | (simp only [nx_push, nx_put, nx_mark]; try omega))).put (by first | omega | (simp only [nx_push, nx_put, nx_mark]; try omega)) (by first | omega | (simp only [nx_push, nx_put, nx_mark]; try omega)) _).put (by first | omega | (simp only [nx_push, nx_put, nx_mark]; try omega)) (by first | omega | (simp only [nx_push, nx_put, nx_mark]; try omega)) _)) (z _)
      · by_cases l2 : F.most < (r.length : Int)
        · rw [bad (.inr l2)] at h
          simp (disch := first | omega | (simp only [List.length_cons, List.length_nil, true_and, and_true, nx_push, nx_put, nx_mark]; try omega)) only [go_sem, ↓reduceIte, Nat.reduceAdd, Nat.reduceMul, Nat.reduceSub, Int.reduceToNat, UInt8.reduceToNat, Nat.reduceLeDiff, Nat.reduceEqDiff, Nat.sub_zero, Int.add_zero, Int.zero_add, Nat.add_zero, Nat.zero_add, Nat.zero_mul, a2, b2, l0, hl1]
          refine w_dregA rfl rfl ?_
          have g2' : H2.get id = H.get id := hE2.get id hid
          simp (disch := first | omega | (simp only [List.length_cons, List.length_nil, true_and, and_true, nx_push, nx_put, nx_mark]; try omega)) only [go_sem, ↓reduceIte, Nat.reduceAdd, Nat.reduceMul, Nat.reduceSub, Int.reduceToNat, UInt8.reduceToNat, Nat.reduceLeDiff, Nat.reduceEqDiff, Nat.sub_zero, Int.add_zero, Int.zero_add, Nat.add_zero, Nat.zero_add, Nat.zero_mul, a2, b2, z1, g2', z4, hm2, res3ctt]
          exact h _ _ (((((Ext.mark hE2).push _ (by first | omega | (simp only [nx_push, nx_put, nx_mark]; try omega))).put (by first | omega | (simp only [nx_push, nx_put, nx_mark]; try omega)) (by first | omega | (simp only [nx_push, nx_put, nx_mark]; try omega)) _).put (by first | omega | (simp only [nx_push, nx_put, nx_mark]; try omega)) (by first | omega | (simp only [nx_push, nx_put, nx_mark]; try omega)) _)) (z _)
        · have good : factF (at_, w :: r) = match fillF F 0 r ⟨F.kind, [], [], [], 0, [], at_⟩ with
              | .error (q, e) => (fact0, q, e)
              | .ok y => (y, 0, 0) := by simp only [factF, hF]; rw [if_neg (by omega)]
          rw [good] at h
          simp (disch := first | omega | (simp only [List.length_cons, List.length_nil, true_and, and_true, nx_push, nx_put, nx_mark]; try omega)) only [go_sem, ↓reduceIte, Nat.reduceAdd, Nat.reduceMul, Nat.reduceSub, Int.reduceToNat, UInt8.reduceToNat, Nat.reduceLeDiff, Nat.reduceEqDiff, Nat.sub_zero, Int.add_zero, Int.zero_add, Nat.add_zero, Nat.zero_add, Nat.zero_mul, a2, b2, l0, hl1]
          refine w_dregA rfl rfl ?_
          simp (disch := first | omega | (simp only [List.length_cons, List.length_nil, true_and, and_true, nx_push, nx_put, nx_mark]; try omega)) only [go_sem, ↓reduceIte, Nat.reduceAdd, Nat.reduceMul, Nat.reduceSub, Int.reduceToNat, UInt8.reduceToNat, Nat.reduceLeDiff, Nat.reduceEqDiff, Nat.sub_zero, Int.add_zero, Int.zero_add, Nat.add_zero, Nat.zero_add, Nat.zero_mul, a2, b2, l0, hl1]
          generalize hH3 : ((((H2.push (AO.mem [AV.i IntKind.i64 0, AV.i IntKind.i64 0, AV.b false, AV.i IntKind.i64 0, AV.i IntKind.i64 0] 0 ty_role_form true 0)).put H2.next (AO.mem [AV.i IntKind.i64 F.kind, AV.i IntKind.i64 F.names, AV.b F.number, AV.i IntKind.i64 F.least, AV.i IntKind.i64 F.most] 0 ty_role_form true 0)).push (AO.mem [AV.i IntKind.i64 0, AV.s [], AV.s [], AV.s [], AV.i IntKind.i64 0, AV.nsl, AV.i IntKind.i64 0] 0 ty_api_Fact true 0)).put (H2.next + 1) (AO.mem [AV.i IntKind.i64 F.kind, AV.s [], AV.s [], AV.s [], AV.i IntKind.i64 0, AV.nsl, AV.i IntKind.i64 at_] 0 ty_api_Fact true 0)) = H3
          have hE3 : Ext H.next (H.mark []) H3 := by rw [← hH3]; exact (((hE2.push _ (by first | omega | (simp only [nx_push, nx_put, nx_mark]; try omega))).put (by first | omega | (simp only [nx_push, nx_put, nx_mark]; try omega)) (by first | omega | (simp only [nx_push, nx_put, nx_mark]; try omega)) _).push _ (by first | omega | (simp only [nx_push, nx_put, nx_mark]; try omega))).put (by first | omega | (simp only [nx_push, nx_put, nx_mark]; try omega)) (by first | omega | (simp only [nx_push, nx_put, nx_mark]; try omega)) _
          have hn3 : H3.next = H2.next + 2 := by rw [← hH3]; rfl
          have a3 : H3.get H.next = .mem [.i .i64 at_, v] 0 ty_api_Line true 0 := by rw [← hH3]; simp (disch := first | omega | (simp only [List.length_cons, List.length_nil, true_and, and_true, nx_push, nx_put, nx_mark]; try omega)) only [go_sem, ↓reduceIte, Nat.reduceAdd, Nat.reduceMul, Nat.reduceSub, Int.reduceToNat, UInt8.reduceToNat, Nat.reduceLeDiff, Nat.reduceEqDiff, Nat.sub_zero, Int.add_zero, Int.zero_add, Nat.add_zero, Nat.zero_add, Nat.zero_mul, a2]
          have b3 : H3.get (H.next + 1) = .mem (factC fact0 .nsl) 0 ty_api_Fact true 0 := by rw [← hH3]; simp (disch := first | omega | (simp only [List.length_cons, List.length_nil, true_and, and_true, nx_push, nx_put, nx_mark]; try omega)) only [go_sem, ↓reduceIte, Nat.reduceAdd, Nat.reduceMul, Nat.reduceSub, Int.reduceToNat, UInt8.reduceToNat, Nat.reduceLeDiff, Nat.reduceEqDiff, Nat.sub_zero, Int.add_zero, Int.zero_add, Nat.add_zero, Nat.zero_add, Nat.zero_mul, b2]; rfl
          have c3 : H3.get H2.next = .mem (formC F) 0 ty_role_form true 0 := by rw [← hH3]; simp (disch := first | omega | (simp only [List.length_cons, List.length_nil, true_and, and_true, nx_push, nx_put, nx_mark]; try omega)) only [go_sem, ↓reduceIte, Nat.reduceAdd, Nat.reduceMul, Nat.reduceSub, Int.reduceToNat, UInt8.reduceToNat, Nat.reduceLeDiff, Nat.reduceEqDiff, Nat.sub_zero, Int.add_zero, Int.zero_add, Nat.add_zero, Nat.zero_add, Nat.zero_mul]; rfl
          have d3 : H3.get (H2.next + 1) = .mem (factC ⟨F.kind, [], [], [], 0, [], at_⟩ .nsl) 0 ty_api_Fact true 0 := by rw [← hH3]; simp (disch := first | omega | (simp only [List.length_cons, List.length_nil, true_and, and_true, nx_push, nx_put, nx_mark]; try omega)) only [go_sem, ↓reduceIte, Nat.reduceAdd, Nat.reduceMul, Nat.reduceSub, Int.reduceToNat, UInt8.reduceToNat, Nat.reduceLeDiff, Nat.reduceEqDiff, Nat.sub_zero, Int.add_zero, Int.zero_add, Nat.add_zero, Nat.zero_add, Nat.zero_mul]; rfl
          clear hH3
          obtain ⟨u, us, ur⟩ := SlR.slice (lo := some (.i .i64 1)) (hi := none) hv rfl rfl (by simp) (Nat.le_refl _)
          have us3 := slVA_up (H := H) (H' := H3) (le_up (H := H.mark []) hE3 hw (Nat.le_refl _)) us
          have hdr : ((w :: r).drop 1).take ((w :: r).length - 1) = r := by simp
          rw [hdr] at ur
          rw [us3]
          simp (disch := first | omega | (simp only [List.length_cons, List.length_nil, true_and, and_true, nx_push, nx_put, nx_mark]; try omega)) only [go_sem, ↓reduceIte, Nat.reduceAdd, Nat.reduceMul, Nat.reduceSub, Int.reduceToNat, UInt8.reduceToNat, Nat.reduceLeDiff, Nat.reduceEqDiff, Nat.sub_zero, Int.add_zero, Int.zero_add, Nat.add_zero, Nat.zero_add, Nat.zero_mul]
          refine fill_run (m := H2.next + 1) (o := H2.next + 1) (F := F) (ws := r) (x := ⟨F.kind, [], [], [], 0, [], at_⟩) (fun H' x => ur.mono Rword_mono (le_up (H := H.mark []) (hE3.trans x (by omega)) hw (Nat.le_refl _))) hE3.wf (Nat.le_refl _) (by omega) (by simp at hln; omega) (fun w' hw' => hlw w' (by simp [hw'])) d3 rfl (fun q e H4 hr x4 => ?_) (fun y H4 hr x4 hO => ?_)
          · rw [hr] at h
            have a4 := x4.of a3 (by omega)
            have b4 := x4.of b3 (by omega)
            have n4 := x4.next
            have hE4 := hE3.trans x4 (by omega)
            have hm4 : H4.marks = [] := hE4.marks
            have he := fillF_err hr
            have c3' := c3
            have u1 := ur.one
            simp only [fact0, factC] at b4
            simp only [formC] at c3'
            simp (disch := first | omega | (simp only [List.length_cons, List.length_nil, true_and, and_true, nx_push, nx_put, nx_mark]; try omega)) only [go_sem, ↓reduceIte, Nat.reduceAdd, Nat.reduceMul, Nat.reduceSub, Int.reduceToNat, UInt8.reduceToNat, Nat.reduceLeDiff, Nat.reduceEqDiff, Nat.sub_zero, Int.add_zero, Int.zero_add, Nat.add_zero, Nat.zero_add, Nat.zero_mul, a4, b4, hm4, c3', a3, us3, res3ctt]
            exact h _ _ (((Ext.mark hE4).put (by first | omega | (simp only [nx_push, nx_put, nx_mark]; try omega)) (by first | omega | (simp only [nx_push, nx_put, nx_mark]; try omega)) _)) (z _)
          · rw [hr] at h
            obtain ⟨g, o4, r4⟩ := hO
            have a4 := x4.of a3 (by omega)
            have b4 := x4.of b3 (by omega)
            have n4 := x4.next
            have hE4 := hE3.trans x4 (by omega)
            have hm4 : H4.marks = [] := hE4.marks
            have c3' := c3
            have g1 := r4.one
            simp only [fact0, factC] at b4 o4
            simp only [formC] at c3'
            simp (disch := first | omega | (simp only [List.length_cons, List.length_nil, true_and, and_true, nx_push, nx_put, nx_mark]; try omega)) only [go_sem, ↓reduceIte, Nat.reduceAdd, Nat.reduceMul, Nat.reduceSub, Int.reduceToNat, UInt8.reduceToNat, Nat.reduceLeDiff, Nat.reduceEqDiff, Nat.sub_zero, Int.add_zero, Int.zero_add, Nat.add_zero, Nat.zero_add, Nat.zero_mul, a4, b4, hm4, c3', a3, us3, o4, g1, res3ctt]
            exact h _ _ (((Ext.mark hE4).put (by first | omega | (simp only [nx_push, nx_put, nx_mark]; try omega)) (by first | omega | (simp only [nx_push, nx_put, nx_mark]; try omega)) _)) ⟨g, rfl, (((r4.mark (l := H.marks)).put (by first | omega | (simp only [nx_push, nx_put, nx_mark]; try omega))).down Rs_mono (by first | omega | (simp only [nx_push, nx_put, nx_mark]; try omega))).read Rs_mono⟩
end Go.Fw.Ro
end
section
/- A role policy's text. -/
namespace Go.Fw.Ro
open Go Go.Fw Go.Fw.Sys
set_option maxRecDepth 100000
variable {H : Mem} {K : AV → Mem → Prop}
def goF : Nat → List LineT → List FactT → List FactT × Int × Int
  | _, [], acc => (acc, 0, 0)
  | i, x :: r, acc => if 2000 ≤ i then ([], x.1, 8) else if (factF x).2.2 = 0 then goF (i + 1) r (acc ++ [(factF x).1]) else ([], (factF x).2.1, (factF x).2.2)
def parseF (s : List UInt8) : List FactT × Int × Int := if (linesOf s).2.2 = 0 then goF 0 (linesOf s).1 [] else ([], (linesOf s).2.1, (linesOf s).2.2)
def lineOk (l : LineT) : Prop := l.2.length ≤ 1000000 ∧ ∀ w ∈ l.2, w.1.length ≤ 1000000
theorem Parse_loop {v : AV} {ls : List LineT} {H0 : Mem} {Q : Ex → Tr → Mem → Prop} (hw0 : Wf H0) (hv : SlR 2 Rline H0.get v ls) (hln : ls.length ≤ 1000000) (hok : ∀ l ∈ ls, lineOk l) :
    ∀ (r : List LineT) (i : Nat) (f : Nat → AV) (H : Mem) (u : AV) (acc : List FactT), ls.drop i = r → i + r.length = ls.length → acc.length = i → Ext H0.next H0 H → SlO 7 ty_api_Fact Rfact H0.next H u acc → f 8 = u → f 24 = v → f 25 = .i .i64 ls.length → f 26 = .i .i64 i →
    (∀ q e f' H', goF i r acc = ([], q, e) → f' 2 = .nsl → f' 3 = .i .i64 q → f' 4 = .i .i64 e → Ext H0.next H0 H' → Q .rt (trO 51 f') H') →
    (∀ l f' u' H', goF i r acc = (l, 0, 0) → f' 8 = u' → SlO 7 ty_api_Fact Rfact H0.next H' u' l → Ext H0.next H0 H' → Q (.ex 0) (trO 51 f') H') → @W S false (.loop lp_role_Parse_0) (trO 51 f) H ⟨Q⟩ := by
  intro r
  induction r with
  | nil =>
    intro i f H u acc hr hi ha hx hO f8 f24 f25 f26 k1 k2
    simp at hi
    rw [w_loop]
    unfold lp_role_Parse_0
    simp (disch := first | omega | (simp only [List.length_cons, List.length_nil, true_and, and_true, nx_push, nx_put, nx_mark]; try omega)) only [go_sem, ↓reduceIte, Nat.reduceAdd, Nat.reduceMul, Nat.reduceSub, Int.reduceToNat, UInt8.reduceToNat, Nat.reduceLeDiff, Nat.reduceEqDiff, Nat.sub_zero, Int.add_zero, Int.zero_add, Nat.add_zero, Nat.zero_add, Nat.zero_mul, f8, f24, f25, f26]
    exact atQ 51 rfl (k2 acc _ u H rfl rfl hO hx)
  | cons x r ih =>
    intro i f H u acc hr hi ha hx hO f8 f24 f25 f26 k1 k2
    simp at hi
    have hxi : ls[i]? = some x := by rw [← List.head?_drop, hr]; rfl
    have hr1 : ls.drop (i + 1) = r := by rw [← List.drop_drop, hr]; rfl
    obtain ⟨ok1, ok2⟩ := hok x (List.mem_of_getElem? hxi)
    obtain ⟨id, p, c, y1, y2, y3, y4, y5, y6⟩ := (hv.mono Rline_mono (le_up hx hw0 (Nat.le_refl _))).at_ hxi
    obtain ⟨w, rfl, hwr⟩ := y2
    have w1 := hwr.one
    have hid := hx.wf id y6
    have hn0 := hx.next
    rw [w_loop]
    unfold lp_role_Parse_0
    simp (disch := first | omega | (simp only [List.length_cons, List.length_nil, true_and, and_true, nx_push, nx_put, nx_mark]; try omega)) only [go_sem, ↓reduceIte, Nat.reduceAdd, Nat.reduceMul, Nat.reduceSub, Int.reduceToNat, UInt8.reduceToNat, Nat.reduceLeDiff, Nat.reduceEqDiff, Nat.sub_zero, Int.add_zero, Int.zero_add, Nat.add_zero, Nat.zero_add, Nat.zero_mul, f8, f24, f25, f26, y1, y4, w1]
    generalize hH1 : ((H.push (AO.mem [AV.i IntKind.i64 0, AV.nsl] 0 ty_api_Line true 0)).put H.next (AO.mem [AV.i IntKind.i64 x.1, w] 0 ty_api_Line true 0)) = H1
    have hE1 : Ext H.next H H1 := by rw [← hH1]; exact ((Ext.refl hx.wf).push _ (Nat.le_refl _)).put (Nat.le_refl _) (by simp) _
    have hn1 : H1.next = H.next + 1 := by rw [← hH1]; rfl
    have hg1 : H1.get H.next = .mem [.i .i64 x.1, w] 0 ty_api_Line true 0 := by rw [← hH1]; simp (disch := first | omega | (simp only [List.length_cons, List.length_nil, true_and, and_true, nx_push, nx_put, nx_mark]; try omega)) only [go_sem, ↓reduceIte, Nat.reduceAdd, Nat.reduceMul, Nat.reduceSub, Int.reduceToNat, UInt8.reduceToNat, Nat.reduceLeDiff, Nat.reduceEqDiff, Nat.sub_zero, Int.add_zero, Int.zero_add, Nat.add_zero, Nat.zero_add, Nat.zero_mul]
    clear hH1
    have hx1 := hx.trans hE1 hn0
    by_cases h1 : 2000 ≤ i
    · simp (disch := first | omega | (simp only [List.length_cons, List.length_nil, true_and, and_true, nx_push, nx_put, nx_mark]; try omega)) only [go_sem, ↓reduceIte, Nat.reduceAdd, Nat.reduceMul, Nat.reduceSub, Int.reduceToNat, UInt8.reduceToNat, Nat.reduceLeDiff, Nat.reduceEqDiff, Nat.sub_zero, Int.add_zero, Int.zero_add, Nat.add_zero, Nat.zero_add, Nat.zero_mul]
      refine w_dregA rfl rfl ?_
      simp (disch := first | omega | (simp only [List.length_cons, List.length_nil, true_and, and_true, nx_push, nx_put, nx_mark]; try omega)) only [go_sem, ↓reduceIte, Nat.reduceAdd, Nat.reduceMul, Nat.reduceSub, Int.reduceToNat, UInt8.reduceToNat, Nat.reduceLeDiff, Nat.reduceEqDiff, Nat.sub_zero, Int.add_zero, Int.zero_add, Nat.add_zero, Nat.zero_add, Nat.zero_mul, hg1]
      exact atQ 51 rfl (k1 _ _ _ H1 (by rw [goF, if_pos h1]) rfl rfl rfl hx1)
    · have hg : goF i (x :: r) acc = if (factF x).2.2 = 0 then goF (i + 1) r (acc ++ [(factF x).1]) else ([], (factF x).2.1, (factF x).2.2) := by rw [goF, if_neg h1]
      simp (disch := first | omega | (simp only [List.length_cons, List.length_nil, true_and, and_true, nx_push, nx_put, nx_mark]; try omega)) only [go_sem, ↓reduceIte, Nat.reduceAdd, Nat.reduceMul, Nat.reduceSub, Int.reduceToNat, UInt8.reduceToNat, Nat.reduceLeDiff, Nat.reduceEqDiff, Nat.sub_zero, Int.add_zero, Int.zero_add, Nat.add_zero, Nat.zero_add, Nat.zero_mul, hg1]
      refine Fact_run (hwr.mono Rword_mono (le_up hE1 hx.wf (Nat.le_refl _))) hE1.wf ok1 ok2 (fun c H2 x2 hc => ?_)
      rw [show ((x.1, x.2) : LineT) = x from rfl] at hc ⊢
      obtain ⟨g, rfl, gr⟩ := hc
      have g1 := gr.one
      have n2 := x2.next
      have hx2 := hx1.trans x2 (by omega)
      simp only [factC]
      by_cases he : (factF x).2.2 = 0
      · rw [if_pos he] at hg
        simp (disch := first | omega | (simp only [List.length_cons, List.length_nil, true_and, and_true, nx_push, nx_put, nx_mark]; try omega)) only [go_sem, ↓reduceIte, Nat.reduceAdd, Nat.reduceMul, Nat.reduceSub, Int.reduceToNat, UInt8.reduceToNat, Nat.reduceLeDiff, Nat.reduceEqDiff, Nat.sub_zero, Int.add_zero, Int.zero_add, Nat.add_zero, Nat.zero_add, Nat.zero_mul, he, g1]
        have k : Ext H.next H ((H2.push (AO.mem [AV.i IntKind.i64 0, AV.s [], AV.s [], AV.s [], AV.i IntKind.i64 0, AV.nsl, AV.i IntKind.i64 0] 0 ty_api_Fact true 0)).put H2.next (AO.mem (factC (factF x).1 g) 0 ty_api_Fact true 0)) := ((hE1.trans x2 (by omega)).push _ (by first | omega | (simp only [nx_push, nx_put, nx_mark]; try omega))).put (by first | omega | (simp only [nx_push, nx_put, nx_mark]; try omega)) (by first | omega | (simp only [nx_push, nx_put, nx_mark]; try omega)) _
        have kx := k.wf
        refine onE_of (SlO.app1 (x := (factF x).1) (c := factC (factF x).1 g) Rfact_mono hO hx.wf hn0 k rfl (by simp only [factC, List.all_cons, g1]; rfl) ⟨g, rfl, gr.mono Rs_mono ((sn_down (by omega)).trans (sn_up (((Ext.refl x2.wf (n := H2.next)).push _ (Nat.le_refl _)).put (Nat.le_refl _) (by first | omega | (simp only [nx_push, nx_put, nx_mark]; try omega)) _) x2.wf (Nat.le_refl _)))⟩ (by omega) rfl (by omega) (by omega)) (fun v' H3 hh => ?_)
        obtain ⟨hO3, hX3, hN3⟩ := hh
        have v1 := hO3.one
        simp (disch := first | omega | (simp only [List.length_cons, List.length_nil, true_and, and_true, nx_push, nx_put, nx_mark]; try omega)) only [go_sem, ↓reduceIte, Nat.reduceAdd, Nat.reduceMul, Nat.reduceSub, Int.reduceToNat, UInt8.reduceToNat, Nat.reduceLeDiff, Nat.reduceEqDiff, Nat.sub_zero, Int.add_zero, Int.zero_add, Nat.add_zero, Nat.zero_add, Nat.zero_mul, v1]
        refine atW 51 rfl (ih (i + 1) _ H3 v' _ hr1 (by omega) (by simp [ha]) (hx.trans hX3 (Nat.le_refl _)) hO3 rfl rfl rfl rfl (fun q e f' H' a => k1 q e f' H' (hg.trans a)) (fun l f' u' H' a => k2 l f' u' H' (hg.trans a)))
      · rw [if_neg he] at hg
        simp (disch := first | omega | (simp only [List.length_cons, List.length_nil, true_and, and_true, nx_push, nx_put, nx_mark]; try omega)) only [go_sem, ↓reduceIte, Nat.reduceAdd, Nat.reduceMul, Nat.reduceSub, Int.reduceToNat, UInt8.reduceToNat, Nat.reduceLeDiff, Nat.reduceEqDiff, Nat.sub_zero, Int.add_zero, Int.zero_add, Nat.add_zero, Nat.zero_add, Nat.zero_mul, he, g1]
        exact atQ 51 rfl (k1 _ _ _ _ hg rfl rfl rfl ((hx2.push _ (by first | omega | (simp only [nx_push, nx_put, nx_mark]; try omega))).put (by first | omega | (simp only [nx_push, nx_put, nx_mark]; try omega)) (by first | omega | (simp only [nx_push, nx_put, nx_mark]; try omega)) _))
theorem wordsF_ok : ∀ (n : Nat) (s : List UInt8) (p : Int), (wordsF n s p).length ≤ n ∧ ∀ w ∈ wordsF n s p, w.1.length ≤ s.length
  | 0, s, p => by simp [wordsF]
  | n + 1, [], p => by simp [wordsF]
  | n + 1, c :: r, p => by
    rw [wordsF]
    split
    · have := wordsF_ok n r (p + 1)
      exact ⟨by omega, fun w hw => by have := this.2 w hw; simp; omega⟩
    · split
      · simp
      · have h := wordsF_ok n ((c :: r).drop (tk (c :: r)).length) (p + (tk (c :: r)).length)
        refine ⟨by simp; omega, fun w hw => ?_⟩
        rcases List.mem_cons.1 hw with rfl | hw
        · rw [← tk_take]; exact List.length_take_le' _ _
        · have := h.2 w hw; simp only [List.length_drop] at this; omega
theorem more1_ok {acc : List LineT} {ws : List WordT} (ha : ∀ l ∈ acc, lineOk l) (h1 : ws.length ≤ 1000000) (h2 : ∀ w ∈ ws, w.1.length ≤ 1000000) : ∀ l ∈ more1 acc ws, lineOk l := by
  cases ws with
  | nil => exact ha
  | cons w r =>
    intro l hl
    simp only [more1, List.mem_append, List.mem_singleton] at hl
    rcases hl with hl | rfl
    · exact ha l hl
    · exact ⟨h1, h2⟩
theorem linesG_ok : ∀ (ps : List (List UInt8)) (p : Int) (acc l : List LineT), (∀ x ∈ ps, x.length ≤ 1000000) → (∀ l ∈ acc, lineOk l) → linesG ps p acc = .ok l → (∀ x ∈ l, lineOk x) ∧ l.length ≤ acc.length + ps.length
  | [], p, acc, l, _, ha, h => by simp only [linesG, Except.ok.injEq] at h; subst h; exact ⟨ha, by simp⟩
  | x :: ps, p, acc, l, hp, ha, h => by
    rw [linesG] at h
    split at h
    · simp at h
    · have hx := hp x (by simp)
      have ht := trimEnd_le x [13]
      have hw := wordsF_ok (trimEnd x [13]).length (trimEnd x [13]) p
      have hr := linesG_ok ps _ _ l (fun y hy => hp y (by simp [hy])) (more1_ok ha (by omega) (fun w hm => by have := hw.2 w hm; omega)) h
      have hm := more1_le acc (wordsF (trimEnd x [13]).length (trimEnd x [13]) p)
      exact ⟨hr.1, by have := hr.2; simp; omega⟩
theorem piecesF_ok : ∀ (n : Nat) (s : List UInt8), (piecesF n s).length ≤ n + 1 ∧ ∀ x ∈ piecesF n s, x.length ≤ s.length
  | 0, s => by simp [piecesF]
  | n + 1, s => by
    rw [piecesF]
    split
    · simp
    · have h := piecesF_ok n (s.drop ((ixOf s 10).toNat + 1))
      refine ⟨by simp; omega, fun x hx => ?_⟩
      rcases List.mem_cons.1 hx with rfl | hx
      · exact List.length_take_le' _ _
      · have := h.2 x hx; simp only [List.length_drop] at this; omega
theorem linesOf_ok (s : List UInt8) : (∀ l ∈ (linesOf s).1, lineOk l) ∧ (linesOf s).1.length ≤ 1000000 := by
  unfold linesOf
  split
  · simp
  · have hp := piecesF_ok s.length s
    cases h : linesG (piecesF s.length s) 0 [] with
    | error q => simp
    | ok l =>
      have := linesG_ok _ _ _ l (fun x hx => by have := hp.2 x hx; omega) (fun _ hm => by simp at hm) h
      exact ⟨this.1, by have := this.2; simp at this ⊢; omega⟩
theorem goF_err : ∀ (r : List LineT) (i : Nat) (acc : List FactT), (goF i r acc).2.2 = 0 → (goF i r acc).2.1 = 0
  | [], _, _, _ => rfl
  | x :: r, i, acc, h => by
    rw [goF] at h ⊢
    split at h
    · simp at h
    · rename_i h1
      rw [if_neg h1]
      split at h
      · rename_i h2; rw [if_pos h2]; exact goF_err r _ _ h
      · rename_i h2; exact absurd h h2
theorem Parse_run {s : List UInt8} (hs : s.length ≤ 1000000) (hw : Wf H) (h : ∀ v H', Ext H.next H H' → SlR 7 Rfact (sn H.next H') v (parseF s).1 → K (.tup [v, .i .i64 (parseF s).2.1, .i .i64 (parseF s).2.2]) H') : @R S (.f n_role_Parse) [.s s] H ⟨K⟩ := by
  refine run_fn2 rfl rfl ?_
  unfold bd_role_Parse
  simp (disch := first | omega | (simp only [List.length_cons, List.length_nil, true_and, and_true, nx_push, nx_put, nx_mark]; try omega)) only [go_sem, ↓reduceIte, Nat.reduceAdd, Nat.reduceMul, Nat.reduceSub, Int.reduceToNat, UInt8.reduceToNat, Nat.reduceLeDiff, Nat.reduceEqDiff, Nat.sub_zero, Int.add_zero, Int.zero_add, Nat.add_zero, Nat.zero_add, Nat.zero_mul]
  refine li_Lines (H := H.mark []) hs hw (fun v H1 x1 hv => ?_)
  have hm1 : H1.marks = [] := x1.marks
  have hok := linesOf_ok s
  have v1 := hv.one
  by_cases he : (linesOf s).2.2 = 0
  · have e : parseF s = goF 0 (linesOf s).1 [] := by rw [parseF, if_pos he]
    rw [e] at h
    have l1 := hv.len
    simp (disch := first | omega | (simp only [List.length_cons, List.length_nil, true_and, and_true, nx_push, nx_put, nx_mark]; try omega)) only [go_sem, ↓reduceIte, Nat.reduceAdd, Nat.reduceMul, Nat.reduceSub, Int.reduceToNat, UInt8.reduceToNat, Nat.reduceLeDiff, Nat.reduceEqDiff, Nat.sub_zero, Int.add_zero, Int.zero_add, Nat.add_zero, Nat.zero_add, Nat.zero_mul, v1, he, l1]
    refine atW 51 rfl (Parse_loop (H0 := H1) x1.wf (hv.mono Rline_mono sn_le) hok.2 hok.1 (linesOf s).1 0 _ H1 .nsl [] rfl (by simp) rfl (Ext.refl x1.wf) SlO.nil rfl rfl rfl rfl (fun q e f' H' a b2 b3 b4 c => ?_) (fun l f' u' H' a b c d => ?_))
    · have hm' : H'.marks = [] := c.marks.trans hm1
      rw [a] at h
      simp (disch := first | omega | (simp only [List.length_cons, List.length_nil, true_and, and_true, nx_push, nx_put, nx_mark]; try omega)) only [go_sem, ↓reduceIte, Nat.reduceAdd, Nat.reduceMul, Nat.reduceSub, Int.reduceToNat, UInt8.reduceToNat, Nat.reduceLeDiff, Nat.reduceEqDiff, Nat.sub_zero, Int.add_zero, Int.zero_add, Nat.add_zero, Nat.zero_add, Nat.zero_mul, b2, b3, b4, hm']
      exact h _ _ (Ext.mark (x1.trans c x1.next)) SlR.nil
    · have hm' : H'.marks = [] := d.marks.trans hm1
      rw [a] at h
      have u1 := c.one
      simp (disch := first | omega | (simp only [List.length_cons, List.length_nil, true_and, and_true, nx_push, nx_put, nx_mark]; try omega)) only [go_sem, ↓reduceIte, Nat.reduceAdd, Nat.reduceMul, Nat.reduceSub, Int.reduceToNat, UInt8.reduceToNat, Nat.reduceLeDiff, Nat.reduceEqDiff, Nat.sub_zero, Int.add_zero, Int.zero_add, Nat.add_zero, Nat.zero_add, Nat.zero_mul, b, hm', u1]
      exact h _ _ (Ext.mark (x1.trans d x1.next)) ((c.down Rfact_mono x1.next).read Rfact_mono)
  · have e : parseF s = ([], (linesOf s).2.1, (linesOf s).2.2) := by rw [parseF, if_neg he]
    rw [e] at h
    simp (disch := first | omega | (simp only [List.length_cons, List.length_nil, true_and, and_true, nx_push, nx_put, nx_mark]; try omega)) only [go_sem, ↓reduceIte, Nat.reduceAdd, Nat.reduceMul, Nat.reduceSub, Int.reduceToNat, UInt8.reduceToNat, Nat.reduceLeDiff, Nat.reduceEqDiff, Nat.sub_zero, Int.add_zero, Int.zero_add, Nat.add_zero, Nat.zero_add, Nat.zero_mul, v1, he, hm1]
    exact h _ _ (Ext.mark x1) SlR.nil
end Go.Fw.Ro
end
section
/- What is told of a fact; a text of facts. -/
namespace Go.Fw.Ro
open Go Go.Fw Go.Fw.Sys
set_option maxRecDepth 100000
variable {H : Mem} {K : AV → Mem → Prop}
def kwF (k : Int) : List UInt8 :=
  if k = 1 then [117, 115, 101, 114] else if k = 2 then [114, 111, 108, 101] else if k = 3 then [105, 110, 104, 101, 114, 105, 116] else if k = 4 then [97, 115, 115, 105, 103, 110]
  else if k = 5 then [103, 114, 97, 110, 116] else if k = 6 then [115, 115, 100] else if k = 7 then [100, 115, 100] else if k = 8 then [115, 101, 115, 115, 105, 111, 110] else []
theorem keyword_run {k : Int} (hw : Wf H) (h : ∀ H', Ext H.next H H' → K (.s (kwF k)) H') : @R S (.f n_role_keyword) [.i .i64 k] H ⟨K⟩ := by
  refine run_fn2 rfl rfl ?_
  unfold bd_role_keyword
  have x : ∀ o o', Ext H.next H ((H.push o).put H.next o') := fun o o' => ((Ext.refl hw).push _ (Nat.le_refl _)).put (Nat.le_refl _) (by simp) _
  simp (disch := first | omega | (simp only [List.length_cons, List.length_nil, true_and, and_true, nx_push, nx_put, nx_mark]; try omega)) only [go_sem, ↓reduceIte, Nat.reduceAdd, Nat.reduceMul, Nat.reduceSub, Int.reduceToNat, UInt8.reduceToNat, Nat.reduceLeDiff, Nat.reduceEqDiff, Nat.sub_zero, Int.add_zero, Int.zero_add, Nat.add_zero, Nat.zero_add, Nat.zero_mul]
  by_cases h1 : k < 1
  · have e : kwF k = [] := by unfold kwF; repeat rw [if_neg (by omega)]
    rw [e] at h
    simp (disch := first | omega | (simp only [List.length_cons, List.length_nil, true_and, and_true, nx_push, nx_put, nx_mark]; try omega)) only [go_sem, ↓reduceIte, Nat.reduceAdd, Nat.reduceMul, Nat.reduceSub, Int.reduceToNat, UInt8.reduceToNat, Nat.reduceLeDiff, Nat.reduceEqDiff, Nat.sub_zero, Int.add_zero, Int.zero_add, Nat.add_zero, Nat.zero_add, Nat.zero_mul]
    exact h _ (x _ _)
  · by_cases h2 : 9 ≤ k
    · have e : kwF k = [] := by unfold kwF; repeat rw [if_neg (by omega)]
      rw [e] at h
      simp (disch := first | omega | (simp only [List.length_cons, List.length_nil, true_and, and_true, nx_push, nx_put, nx_mark]; try omega)) only [go_sem, ↓reduceIte, Nat.reduceAdd, Nat.reduceMul, Nat.reduceSub, Int.reduceToNat, UInt8.reduceToNat, Nat.reduceLeDiff, Nat.reduceEqDiff, Nat.sub_zero, Int.add_zero, Int.zero_add, Nat.add_zero, Nat.zero_add, Nat.zero_mul]
      exact h _ (x _ _)
    · obtain rfl | rfl | rfl | rfl | rfl | rfl | rfl | rfl : k = 1 ∨ k = 2 ∨ k = 3 ∨ k = 4 ∨ k = 5 ∨ k = 6 ∨ k = 7 ∨ k = 8 := by omega
      all_goals simp (disch := first | omega | (simp only [List.length_cons, List.length_nil, true_and, and_true, nx_push, nx_put, nx_mark]; try omega)) only [go_sem, ↓reduceIte, Nat.reduceAdd, Nat.reduceMul, Nat.reduceSub, Int.reduceToNat, UInt8.reduceToNat, Nat.reduceLeDiff, Nat.reduceEqDiff, Nat.sub_zero, Int.add_zero, Int.zero_add, Nat.add_zero, Nat.zero_add, Nat.zero_mul]
      all_goals exact h _ (x _ _)
theorem textsOf_map : ∀ xs : List (List UInt8), textsOf (xs.map AV.s) = some xs
  | [] => rfl
  | x :: r => by simp [textsOf, textsOf_map r]
theorem Rs_cells {G : Gt} {cs : List AV} {xs : List (List UInt8)} (h : Els 1 Rs G cs 0 xs) (hl : cs.length = xs.length * 1) : cs = xs.map AV.s ∧ cs.all AV.one = true := by
  have e : cs = xs.map AV.s := by
    apply List.ext_getElem?
    intro j
    by_cases hj : j < xs.length
    · have := h.el j (xs[j]) (by simp [hj])
      simp only [Rs, Nat.mul_one, Nat.zero_add] at this
      have h4 := congrArg (fun l => l[0]?) this
      simp only [List.getElem?_take_of_lt Nat.zero_lt_one, List.getElem?_drop, Nat.add_zero] at h4
      rw [h4]; simp [hj]
    · rw [List.getElem?_eq_none (by omega), List.getElem?_eq_none (by simp; omega)]
  refine ⟨e, ?_⟩
  rw [e]; simp [AV.one]
/-- A row of texts, joined. -/
theorem join_told {v : AV} {sep : List UInt8} {xs : List (List UInt8)} (hv : SlR 1 Rs H.get v xs) (hn : xs.length ≤ 140737488355328) (hl : (joinF sep xs).length ≤ 140737488355328) (h : K (.s (joinF sep xs)) H) : @R S (.f n_strings_Join) [v, .s sep] H ⟨K⟩ := by
  refine run_told (v := .s (joinF sep xs)) (H' := H) ?_ h
  show Xr _ _ _ = _
  have e : extA n_internal_bytealg_IndexByteString n_internal_bytealg_CountString n_strings_Join (.f n_strings_Join) [v, .s sep] H = some (.s (joinF sep xs), H) := by
    show (match joinA H v sep with | some v => some (v, H) | none => none) = _
    have : joinA H v sep = some (.s (joinF sep xs)) := by
      rcases hv with ⟨rfl, rfl | rfl⟩ | ⟨id, off, cap, cells, t, own, frz, rfl, h2, hc, h3⟩
      · rfl
      · rfl
      · have el : (cells.drop off).take xs.length = xs.map AV.s := by
          apply List.ext_getElem?
          intro j
          by_cases hj : j < xs.length
          · have := h3.el j (xs[j]) (by simp [hj])
            simp only [Rs, Nat.mul_one] at this
            have h4 := congrArg (fun l => l[0]?) this
            simp only [List.getElem?_take_of_lt Nat.zero_lt_one, List.getElem?_drop, Nat.add_zero] at h4
            rw [List.getElem?_take_of_lt hj, List.getElem?_drop, h4]
            simp [hj]
          · rw [List.getElem?_eq_none (by simp; omega), List.getElem?_eq_none (by simp; omega)]
        have h4 := h3.le
        have b1 : Nat.ble (off + xs.length) cells.length = true := Nat.ble_eq_true_of_le (by omega)
        have b2 : Nat.ble xs.length 140737488355328 = true := Nat.ble_eq_true_of_le (by omega)
        have b3 : Nat.ble (joinF sep xs).length 140737488355328 = true := Nat.ble_eq_true_of_le (by omega)
        simp only [joinA, h2, b1, b2, el, textsOf_map, frcL_eq, b3]
        rfl
    rw [this]
  unfold Xr
  rw [e]
theorem kwF_len (k : Int) : (kwF k).length ≤ 7 := by
  unfold kwF; repeat' split
  all_goals simp
theorem Join_run {v : AV} {xs : List (List UInt8)} (hv : SlR 1 Rs H.get v xs) (hn : xs.length ≤ 140737488355328) (hl : (joinF [32] xs).length ≤ 140737488355328) (h : K (.s (joinF [32] xs)) H) : @R S (.f n_line_Join) [v] H ⟨K⟩ := by
  refine run_fn2 rfl rfl ?_
  unfold bd_line_Join
  have v1 := hv.one
  simp (disch := first | omega | (simp only [List.length_cons, List.length_nil, true_and, and_true, nx_push, nx_put, nx_mark]; try omega)) only [go_sem, ↓reduceIte, Nat.reduceAdd, Nat.reduceMul, Nat.reduceSub, Int.reduceToNat, UInt8.reduceToNat, Nat.reduceLeDiff, Nat.reduceEqDiff, Nat.sub_zero, Int.add_zero, Int.zero_add, Nat.add_zero, Nat.zero_add, Nat.zero_mul]
  refine join_told (H := H.mark []) hv hn hl ?_
  simp (disch := first | omega | (simp only [List.length_cons, List.length_nil, true_and, and_true, nx_push, nx_put, nx_mark]; try omega)) only [go_sem, ↓reduceIte, Nat.reduceAdd, Nat.reduceMul, Nat.reduceSub, Int.reduceToNat, UInt8.reduceToNat, Nat.reduceLeDiff, Nat.reduceEqDiff, Nat.sub_zero, Int.add_zero, Int.zero_add, Nat.add_zero, Nat.zero_add, Nat.zero_mul]
  exact h
theorem formF_names {w : List UInt8} {F : Form} (h : formF w = some F) : F.names = 1 ∨ F.names = 2 ∨ F.names = 3 := by
  unfold formF at h
  repeat' split at h
  all_goals (first | (cases h; done) | (injection h with h; subst h; simp))
theorem SlO_fresh {n j k : Nat} {xs : List (List UInt8)} (hj : H.next = j) (hk : k = xs.length) (hn : n ≤ j) : SlO 1 ty_string Rs n (H.push (.mem (xs.map AV.s) 1 ty_string true 0)) (.sl j 0 k none) xs := by
  subst hj; subst hk
  refine .inr ⟨H.next, xs.map AV.s, rfl, Mem.get_push_same _ _, by simp, hn, ⟨by simp, fun i x hx => ?_⟩⟩
  have hi := (List.getElem?_eq_some_iff.1 hx).1
  show _ = _
  apply List.ext_getElem?
  intro q
  cases q with
  | zero => simp [hx]
  | succ q => simp [hx]; omega
def toldF (x : FactT) : List UInt8 := match formF (kwF x.kind) with
  | none => []
  | some F => joinF [32] (kwF x.kind :: [x.A, x.B, x.C].take F.names.toNat ++ (if F.number = true then [Lib.decDigits x.N.toNat] else []) ++ x.L)
theorem told_run {x : FactT} {c : List AV} (hc : Rfact H.get c x) (hw : Wf H) (hN : okN H x.N) (hsz : (toldF x).length ≤ 140737488355328) (hL : x.L.length ≤ 1000000) (h : ∀ H', Ext H.next H H' → K (.s (toldF x)) H') : @R S (.f n_role_told) [.agg c] H ⟨K⟩ := by
  obtain ⟨g, rfl, gr⟩ := hc
  have g1 := gr.one
  refine run_fn2 rfl rfl ?_
  unfold bd_role_told
  simp only [factC]
  simp (disch := first | omega | (simp only [List.length_cons, List.length_nil, true_and, and_true, nx_push, nx_put, nx_mark]; try omega)) only [go_sem, ↓reduceIte, Nat.reduceAdd, Nat.reduceMul, Nat.reduceSub, Int.reduceToNat, UInt8.reduceToNat, Nat.reduceLeDiff, Nat.reduceEqDiff, Nat.sub_zero, Int.add_zero, Int.zero_add, Nat.add_zero, Nat.zero_add, Nat.zero_mul, g1]
  generalize hH1 : ((H.mark []).push (AO.mem [AV.i IntKind.i64 x.kind, AV.s x.A, AV.s x.B, AV.s x.C, AV.i IntKind.i64 x.N, g, AV.i IntKind.i64 x.at_] 0 ty_api_Fact true 0)) = H1
  have hE1 : Ext H.next (H.mark []) H1 := by rw [← hH1]; exact (Ext.refl (H := H.mark []) hw).push _ (Nat.le_refl _)
  have hn1 : H1.next = H.next + 1 := by rw [← hH1]; rfl
  have a1 : H1.get H.next = .mem [AV.i IntKind.i64 x.kind, AV.s x.A, AV.s x.B, AV.s x.C, AV.i IntKind.i64 x.N, g, AV.i IntKind.i64 x.at_] 0 ty_api_Fact true 0 := by rw [← hH1]; simp (disch := first | omega | (simp only [List.length_cons, List.length_nil, true_and, and_true, nx_push, nx_put, nx_mark]; try omega)) only [go_sem, ↓reduceIte, Nat.reduceAdd, Nat.reduceMul, Nat.reduceSub, Int.reduceToNat, UInt8.reduceToNat, Nat.reduceLeDiff, Nat.reduceEqDiff, Nat.sub_zero, Int.add_zero, Int.zero_add, Nat.add_zero, Nat.zero_add, Nat.zero_mul]
  clear hH1
  refine keyword_run hE1.wf (fun H2 x2 => ?_)
  simp (disch := first | omega | (simp only [List.length_cons, List.length_nil, true_and, and_true, nx_push, nx_put, nx_mark]; try omega)) only [go_sem, ↓reduceIte, Nat.reduceAdd, Nat.reduceMul, Nat.reduceSub, Int.reduceToNat, UInt8.reduceToNat, Nat.reduceLeDiff, Nat.reduceEqDiff, Nat.sub_zero, Int.add_zero, Int.zero_add, Nat.add_zero, Nat.zero_add, Nat.zero_mul]
  refine formOf_run x2.wf (fun H3 x3 => ?_)
  have n2 := x2.next
  have n3 := x3.next
  have a3 := x3.of (x2.of a1 (by omega)) (by omega)
  have hE3 := (hE1.trans x2 (by omega)).trans x3 (by omega)
  cases hF : formF (kwF x.kind) with
  | none =>
    have e : toldF x = [] := by simp only [toldF, hF]
    rw [e] at h
    simp only [formV, Option.isSome_none]
    have hm3 : H3.marks = [] := hE3.marks
    simp (disch := first | omega | (simp only [List.length_cons, List.length_nil, true_and, and_true, nx_push, nx_put, nx_mark]; try omega)) only [go_sem, ↓reduceIte, Nat.reduceAdd, Nat.reduceMul, Nat.reduceSub, Int.reduceToNat, UInt8.reduceToNat, Nat.reduceLeDiff, Nat.reduceEqDiff, Nat.sub_zero, Int.add_zero, Int.zero_add, Nat.add_zero, Nat.zero_add, Nat.zero_mul, hm3]
    exact h _ (((Ext.mark hE3).push _ (by first | omega | (simp only [nx_push, nx_put, nx_mark]; try omega))).put (by first | omega | (simp only [nx_push, nx_put, nx_mark]; try omega)) (by first | omega | (simp only [nx_push, nx_put, nx_mark]; try omega)) _)
  | some F =>
    simp only [formV, Option.isSome_some]
    simp (disch := first | omega | (simp only [List.length_cons, List.length_nil, true_and, and_true, nx_push, nx_put, nx_mark]; try omega)) only [go_sem, ↓reduceIte, Nat.reduceAdd, Nat.reduceMul, Nat.reduceSub, Int.reduceToNat, UInt8.reduceToNat, Nat.reduceLeDiff, Nat.reduceEqDiff, Nat.sub_zero, Int.add_zero, Int.zero_add, Nat.add_zero, Nat.zero_add, Nat.zero_mul]
    generalize hH4 : ((H3.push (AO.mem [AV.i IntKind.i64 0, AV.i IntKind.i64 0, AV.b false, AV.i IntKind.i64 0, AV.i IntKind.i64 0] 0 ty_role_form true 0)).put H3.next (AO.mem [AV.i IntKind.i64 F.kind, AV.i IntKind.i64 F.names, AV.b F.number, AV.i IntKind.i64 F.least, AV.i IntKind.i64 F.most] 0 ty_role_form true 0)) = H4
    have hE4 : Ext H.next (H.mark []) H4 := by rw [← hH4]; exact ((hE3.push _ (by first | omega | (simp only [nx_push, nx_put, nx_mark]; try omega))).put (by first | omega | (simp only [nx_push, nx_put, nx_mark]; try omega)) (by first | omega | (simp only [nx_push, nx_put, nx_mark]; try omega)) _)
    have hn4 : H4.next = H3.next + 1 := by rw [← hH4]; rfl
    have a4 : H4.get H.next = .mem [AV.i IntKind.i64 x.kind, AV.s x.A, AV.s x.B, AV.s x.C, AV.i IntKind.i64 x.N, g, AV.i IntKind.i64 x.at_] 0 ty_api_Fact true 0 := by rw [← hH4]; simp (disch := first | omega | (simp only [List.length_cons, List.length_nil, true_and, and_true, nx_push, nx_put, nx_mark]; try omega)) only [go_sem, ↓reduceIte, Nat.reduceAdd, Nat.reduceMul, Nat.reduceSub, Int.reduceToNat, UInt8.reduceToNat, Nat.reduceLeDiff, Nat.reduceEqDiff, Nat.sub_zero, Int.add_zero, Int.zero_add, Nat.add_zero, Nat.zero_add, Nat.zero_mul, a3]
    have b4 : H4.get H3.next = .mem [AV.i IntKind.i64 F.kind, AV.i IntKind.i64 F.names, AV.b F.number, AV.i IntKind.i64 F.least, AV.i IntKind.i64 F.most] 0 ty_role_form true 0 := by rw [← hH4]; simp (disch := first | omega | (simp only [List.length_cons, List.length_nil, true_and, and_true, nx_push, nx_put, nx_mark]; try omega)) only [go_sem, ↓reduceIte, Nat.reduceAdd, Nat.reduceMul, Nat.reduceSub, Int.reduceToNat, UInt8.reduceToNat, Nat.reduceLeDiff, Nat.reduceEqDiff, Nat.sub_zero, Int.add_zero, Int.zero_add, Nat.add_zero, Nat.zero_add, Nat.zero_mul]
    clear hH4
    refine w_dregB [2, 14] 2 rfl rfl rfl rfl ?_
    simp (disch := first | omega | (simp only [List.length_cons, List.length_nil, true_and, and_true, nx_push, nx_put, nx_mark]; try omega)) only [go_sem, ↓reduceIte, Nat.reduceAdd, Nat.reduceMul, Nat.reduceSub, Int.reduceToNat, UInt8.reduceToNat, Nat.reduceLeDiff, Nat.reduceEqDiff, Nat.sub_zero, Int.add_zero, Int.zero_add, Nat.add_zero, Nat.zero_add, Nat.zero_mul, a4, b4]
    refine keyword_run hE4.wf.more (fun H5 x5 => ?_)
    have n5 := x5.next
    simp only [nx_more] at n5
    have a5 : H5.get H.next = _ := x5.of (o := _) a4 (by simp only [nx_more]; omega)
    have b5 : H5.get H3.next = _ := x5.of (o := _) b4 (by simp only [nx_more]; omega)
    have d5 : H5.get H4.next = .dead := x5.of (hE4.wf.far (Nat.le_refl _)) (by simp only [nx_more]; omega)
    have d6 : H5.get (H4.next + 1) = .dead := x5.of (hE4.wf.far (by omega)) (by simp only [nx_more]; omega)
    simp (disch := first | omega | (simp only [List.length_cons, List.length_nil, true_and, and_true, nx_push, nx_put, nx_mark]; try omega)) only [go_sem, ↓reduceIte, Nat.reduceAdd, Nat.reduceMul, Nat.reduceSub, Int.reduceToNat, UInt8.reduceToNat, Nat.reduceLeDiff, Nat.reduceEqDiff, Nat.sub_zero, Int.add_zero, Int.zero_add, Nat.add_zero, Nat.zero_add, Nat.zero_mul, a5, b5]
    have hnm : F.names = 1 ∨ F.names = 2 ∨ F.names = 3 := formF_names hF
    have a6 : ∀ o1 o2, ((H5.put H4.next o1).put (H4.next + 1) o2).get H.next = .mem [AV.i IntKind.i64 x.kind, AV.s x.A, AV.s x.B, AV.s x.C, AV.i IntKind.i64 x.N, g, AV.i IntKind.i64 x.at_] 0 ty_api_Fact true 0 := fun o1 o2 => by simp (disch := first | omega | (simp only [List.length_cons, List.length_nil, true_and, and_true, nx_push, nx_put, nx_mark]; try omega)) only [go_sem, ↓reduceIte, Nat.reduceAdd, Nat.reduceMul, Nat.reduceSub, Int.reduceToNat, UInt8.reduceToNat, Nat.reduceLeDiff, Nat.reduceEqDiff, Nat.sub_zero, Int.add_zero, Int.zero_add, Nat.add_zero, Nat.zero_add, Nat.zero_mul, a5]
    have b6 : ∀ o1 o2, ((H5.put H4.next o1).put (H4.next + 1) o2).get H3.next = .mem [AV.i IntKind.i64 F.kind, AV.i IntKind.i64 F.names, AV.b F.number, AV.i IntKind.i64 F.least, AV.i IntKind.i64 F.most] 0 ty_role_form true 0 := fun o1 o2 => by simp (disch := first | omega | (simp only [List.length_cons, List.length_nil, true_and, and_true, nx_push, nx_put, nx_mark]; try omega)) only [go_sem, ↓reduceIte, Nat.reduceAdd, Nat.reduceMul, Nat.reduceSub, Int.reduceToNat, UInt8.reduceToNat, Nat.reduceLeDiff, Nat.reduceEqDiff, Nat.sub_zero, Int.add_zero, Int.zero_add, Nat.add_zero, Nat.zero_add, Nat.zero_mul, b5]
    have ap : ∀ (m : Nat), 0 < m → m ≤ 3 → appA ((H5.put H4.next (AO.mem [AV.s (kwF x.kind)] 1 ty_string true 0)).put (H4.next + 1) (AO.mem [AV.s x.A, AV.s x.B, AV.s x.C] 1 ty_string true 0)) 1 16 ty_string [AV.s []] (AV.sl H4.next 0 1 (some 1)) (AV.sl (H4.next + 1) 0 m (some 3)) =
        some (.sl H5.next 0 (1 + m) none, ((H5.put H4.next (AO.mem [AV.s (kwF x.kind)] 1 ty_string true 0)).put (H4.next + 1) (AO.mem [AV.s x.A, AV.s x.B, AV.s x.C] 1 ty_string true 0)).push (.mem ((kwF x.kind :: [x.A, x.B, x.C].take m).map AV.s) 1 ty_string true 0)) := fun m h0 h3 => by
      have hg1 : ((H5.put H4.next (AO.mem [AV.s (kwF x.kind)] 1 ty_string true 0)).put (H4.next + 1) (AO.mem [AV.s x.A, AV.s x.B, AV.s x.C] 1 ty_string true 0)).get H4.next = AO.mem [AV.s (kwF x.kind)] 1 ty_string true 0 := by simp (disch := first | omega | (simp only [List.length_cons, List.length_nil, true_and, and_true, nx_push, nx_put, nx_mark]; try omega)) only [go_sem, ↓reduceIte, Nat.reduceAdd, Nat.reduceMul, Nat.reduceSub, Int.reduceToNat, UInt8.reduceToNat, Nat.reduceLeDiff, Nat.reduceEqDiff, Nat.sub_zero, Int.add_zero, Int.zero_add, Nat.add_zero, Nat.zero_add, Nat.zero_mul]
      have hg2 : ((H5.put H4.next (AO.mem [AV.s (kwF x.kind)] 1 ty_string true 0)).put (H4.next + 1) (AO.mem [AV.s x.A, AV.s x.B, AV.s x.C] 1 ty_string true 0)).get (H4.next + 1) = AO.mem [AV.s x.A, AV.s x.B, AV.s x.C] 1 ty_string true 0 := by simp (disch := first | omega | (simp only [List.length_cons, List.length_nil, true_and, and_true, nx_push, nx_put, nx_mark]; try omega)) only [go_sem, ↓reduceIte, Nat.reduceAdd, Nat.reduceMul, Nat.reduceSub, Int.reduceToNat, UInt8.reduceToNat, Nat.reduceLeDiff, Nat.reduceEqDiff, Nat.sub_zero, Int.add_zero, Int.zero_add, Nat.add_zero, Nat.zero_add, Nat.zero_mul]
      have hs : Fw.src ((H5.put H4.next (AO.mem [AV.s (kwF x.kind)] 1 ty_string true 0)).put (H4.next + 1) (AO.mem [AV.s x.A, AV.s x.B, AV.s x.C] 1 ty_string true 0)) 1 (AV.sl (H4.next + 1) 0 m (some 3)) = some ([AV.s x.A, AV.s x.B, AV.s x.C].take m, m) := by
        simp only [Fw.src, hg2]
        rw [if_pos ⟨trivial, by simp; omega⟩]; simp
      obtain rfl | rfl | rfl : m = 1 ∨ m = 2 ∨ m = 3 := by omega
      all_goals rw [appA_cap hs rfl (by omega) rfl (by omega) (by omega) (by omega) hg1 (by simp) (by omega)]
      all_goals rfl
    have hE4m : Ext H.next (H.mark []) (more H4 2) := ⟨Nat.le_trans hE4.next (by simp only [nx_more]; omega), hE4.marks, hE4.get, hE4.wf.more⟩
    have hE5 := hE4m.trans x5 (by simp only [nx_more]; omega)
    have d4 : H4.get H4.next = .dead := hE4.wf.far (Nat.le_refl _)
    have d4' : H4.get (H4.next + 1) = .dead := hE4.wf.far (by omega)
    rcases hnm with hnm | hnm | hnm
    · have ap1 := ap 1 (by omega) (by omega)
      generalize hH6 : ((H5.put H4.next (AO.mem [AV.s (kwF x.kind)] 1 ty_string true 0)).put (H4.next + 1) (AO.mem [AV.s x.A, AV.s x.B, AV.s x.C] 1 ty_string true 0)) = H6 at ap1
      have a6' := a6 (AO.mem [AV.s (kwF x.kind)] 1 ty_string true 0) (AO.mem [AV.s x.A, AV.s x.B, AV.s x.C] 1 ty_string true 0)
      have b6' := b6 (AO.mem [AV.s (kwF x.kind)] 1 ty_string true 0) (AO.mem [AV.s x.A, AV.s x.B, AV.s x.C] 1 ty_string true 0)
      rw [hH6] at a6' b6'
      have hE6 : Ext H.next (H.mark []) H6 := by rw [← hH6]; exact (hE5.put (by first | omega | (simp only [nx_push, nx_put, nx_mark]; try omega)) (by first | omega | (simp only [nx_push, nx_put, nx_mark]; try omega)) _).put (by first | omega | (simp only [nx_push, nx_put, nx_mark]; try omega)) (by first | omega | (simp only [nx_push, nx_put, nx_mark]; try omega)) _
      have hn6 : H6.next = H5.next := by rw [← hH6]; rfl
      simp (disch := first | omega | (simp only [List.length_cons, List.length_nil, true_and, and_true, nx_push, nx_put, nx_mark]; try omega)) only [go_sem, ↓reduceIte, Nat.reduceAdd, Nat.reduceMul, Nat.reduceSub, Int.reduceToNat, UInt8.reduceToNat, Nat.reduceLeDiff, Nat.reduceEqDiff, Nat.sub_zero, Int.add_zero, Int.zero_add, Nat.add_zero, Nat.zero_add, Nat.zero_mul, hnm, hH6, ap1, a4, b4, a5, b5, d4, d4', d5, d6, a6', b6']
      have hO : SlO 1 ty_string Rs (H3.next + 1) (H6.push (.mem [AV.s (kwF x.kind), AV.s x.A] 1 ty_string true 0)) (.sl H5.next 0 2 none) (kwF x.kind :: [x.A]) := SlO_fresh hn6 rfl (by omega)
      have hE7 := hE6.push (.mem [AV.s (kwF x.kind), AV.s x.A] 1 ty_string true 0) (by first | omega | (simp only [nx_push, nx_put, nx_mark]; try omega))
      have a7 : (H6.push (.mem [AV.s (kwF x.kind), AV.s x.A] 1 ty_string true 0)).get H.next = AO.mem [AV.i IntKind.i64 x.kind, AV.s x.A, AV.s x.B, AV.s x.C, AV.i IntKind.i64 x.N, g, AV.i IntKind.i64 x.at_] 0 ty_api_Fact true 0 := by simp (disch := first | omega | (simp only [List.length_cons, List.length_nil, true_and, and_true, nx_push, nx_put, nx_mark]; try omega)) only [go_sem, ↓reduceIte, Nat.reduceAdd, Nat.reduceMul, Nat.reduceSub, Int.reduceToNat, UInt8.reduceToNat, Nat.reduceLeDiff, Nat.reduceEqDiff, Nat.sub_zero, Int.add_zero, Int.zero_add, Nat.add_zero, Nat.zero_add, Nat.zero_mul, a6']
      have b7 : (H6.push (.mem [AV.s (kwF x.kind), AV.s x.A] 1 ty_string true 0)).get H3.next = AO.mem [AV.i IntKind.i64 F.kind, AV.i IntKind.i64 F.names, AV.b F.number, AV.i IntKind.i64 F.least, AV.i IntKind.i64 F.most] 0 ty_role_form true 0 := by simp (disch := first | omega | (simp only [List.length_cons, List.length_nil, true_and, and_true, nx_push, nx_put, nx_mark]; try omega)) only [go_sem, ↓reduceIte, Nat.reduceAdd, Nat.reduceMul, Nat.reduceSub, Int.reduceToNat, UInt8.reduceToNat, Nat.reduceLeDiff, Nat.reduceEqDiff, Nat.sub_zero, Int.add_zero, Int.zero_add, Nat.add_zero, Nat.zero_add, Nat.zero_mul, b6']
      have n7 : (H6.push (.mem [AV.s (kwF x.kind), AV.s x.A] 1 ty_string true 0)).next = H5.next + 1 := by rw [← hn6]; rfl
      generalize hH7 : (H6.push (.mem [AV.s (kwF x.kind), AV.s x.A] 1 ty_string true 0)) = H7 at *
      clear hH7
      have et : toldF x = joinF [32] (kwF x.kind :: [x.A] ++ (if F.number = true then [Lib.decDigits x.N.toNat] else []) ++ x.L) := by simp only [toldF, hF, hnm]; rfl
      cases hq : F.number with
      | false =>
        rw [hq] at et
        simp only [Bool.false_eq_true, if_false, List.append_nil] at et
        rw [et] at h hsz
        simp (disch := first | omega | (simp only [List.length_cons, List.length_nil, true_and, and_true, nx_push, nx_put, nx_mark]; try omega)) only [go_sem, ↓reduceIte, Nat.reduceAdd, Nat.reduceMul, Nat.reduceSub, Int.reduceToNat, UInt8.reduceToNat, Nat.reduceLeDiff, Nat.reduceEqDiff, Nat.sub_zero, Int.add_zero, Int.zero_add, Nat.add_zero, Nat.zero_add, Nat.zero_mul, a7, b7, hq]
        obtain ⟨cs, s1, s2, s3⟩ := (gr.mono Rs_mono (le_up (H := H.mark []) hE7 hw (Nat.le_refl _))).src
        refine onE_of (SlO.app Rs_mono hO hE7.wf (by omega) (Ext.refl hE7.wf) s1 s2 (Rs_cells s3 s2).2 ⟨s3.le, s3.el⟩ (by omega) rfl (by simp; omega) (by simp; omega)) (fun v8 H8 hh => ?_)
        obtain ⟨O8, E8, L8⟩ := hh
        have hE8 := hE7.trans E8 (by omega)
        have v8 := O8.one
        simp (disch := first | omega | (simp only [List.length_cons, List.length_nil, true_and, and_true, nx_push, nx_put, nx_mark]; try omega)) only [go_sem, ↓reduceIte, Nat.reduceAdd, Nat.reduceMul, Nat.reduceSub, Int.reduceToNat, UInt8.reduceToNat, Nat.reduceLeDiff, Nat.reduceEqDiff, Nat.sub_zero, Int.add_zero, Int.zero_add, Nat.add_zero, Nat.zero_add, Nat.zero_mul]
        refine Join_run ((O8.read Rs_mono).mono Rs_mono sn_le) (by simp; omega) hsz ?_
        have hm8 : H8.marks = [] := hE8.marks
        simp (disch := first | omega | (simp only [List.length_cons, List.length_nil, true_and, and_true, nx_push, nx_put, nx_mark]; try omega)) only [go_sem, ↓reduceIte, Nat.reduceAdd, Nat.reduceMul, Nat.reduceSub, Int.reduceToNat, UInt8.reduceToNat, Nat.reduceLeDiff, Nat.reduceEqDiff, Nat.sub_zero, Int.add_zero, Int.zero_add, Nat.add_zero, Nat.zero_add, Nat.zero_mul, hm8]
        exact h _ (Ext.mark hE8)
      | true =>
        rw [hq] at et
        simp only [if_true] at et
        rw [et] at h hsz
        have hI := fun (K : AV → Mem → Prop) => (okN.itoa (K := K) (okN.ext (H := H.mark []) hN hw hE7 (Nat.le_refl _)))
        simp (disch := first | omega | (simp only [List.length_cons, List.length_nil, true_and, and_true, nx_push, nx_put, nx_mark]; try omega)) only [go_sem, ↓reduceIte, Nat.reduceAdd, Nat.reduceMul, Nat.reduceSub, Int.reduceToNat, UInt8.reduceToNat, Nat.reduceLeDiff, Nat.reduceEqDiff, Nat.sub_zero, Int.add_zero, Int.zero_add, Nat.add_zero, Nat.zero_add, Nat.zero_mul, a7, b7, hq, hI]
        refine onE_of (SlO.app1 (x := Lib.decDigits x.N.toNat) Rs_mono hO hE7.wf (by omega) (Ext.refl hE7.wf) rfl rfl rfl (by omega) rfl (by simp) (by simp)) (fun v7 H7' hh => ?_)
        obtain ⟨O7, E7, L7⟩ := hh
        have hE7' := hE7.trans E7 (by omega)
        have v71 := O7.one
        have a7' := E7.of a7 (by omega)
        simp (disch := first | omega | (simp only [List.length_cons, List.length_nil, true_and, and_true, nx_push, nx_put, nx_mark]; try omega)) only [go_sem, ↓reduceIte, Nat.reduceAdd, Nat.reduceMul, Nat.reduceSub, Int.reduceToNat, UInt8.reduceToNat, Nat.reduceLeDiff, Nat.reduceEqDiff, Nat.sub_zero, Int.add_zero, Int.zero_add, Nat.add_zero, Nat.zero_add, Nat.zero_mul, a7']
        obtain ⟨cs, s1, s2, s3⟩ := (gr.mono Rs_mono (le_up (H := H.mark []) hE7' hw (Nat.le_refl _))).src
        refine onE_of (SlO.app Rs_mono O7 hE7'.wf (by omega) (Ext.refl hE7'.wf) s1 s2 (Rs_cells s3 s2).2 ⟨s3.le, s3.el⟩ (by omega) rfl (by simp; omega) (by simp; omega)) (fun v8 H8 hh => ?_)
        obtain ⟨O8, E8, L8⟩ := hh
        have hE8 := hE7'.trans E8 (by omega)
        simp (disch := first | omega | (simp only [List.length_cons, List.length_nil, true_and, and_true, nx_push, nx_put, nx_mark]; try omega)) only [go_sem, ↓reduceIte, Nat.reduceAdd, Nat.reduceMul, Nat.reduceSub, Int.reduceToNat, UInt8.reduceToNat, Nat.reduceLeDiff, Nat.reduceEqDiff, Nat.sub_zero, Int.add_zero, Int.zero_add, Nat.add_zero, Nat.zero_add, Nat.zero_mul]
        refine Join_run ((O8.read Rs_mono).mono Rs_mono sn_le) (by simp; omega) hsz ?_
        have hm8 : H8.marks = [] := hE8.marks
        simp (disch := first | omega | (simp only [List.length_cons, List.length_nil, true_and, and_true, nx_push, nx_put, nx_mark]; try omega)) only [go_sem, ↓reduceIte, Nat.reduceAdd, Nat.reduceMul, Nat.reduceSub, Int.reduceToNat, UInt8.reduceToNat, Nat.reduceLeDiff, Nat.reduceEqDiff, Nat.sub_zero, Int.add_zero, Int.zero_add, Nat.add_zero, Nat.zero_add, Nat.zero_mul, hm8]
        exact h _ (Ext.mark hE8)
    · have ap1 := ap 2 (by omega) (by omega)
      generalize hH6 : ((H5.put H4.next (AO.mem [AV.s (kwF x.kind)] 1 ty_string true 0)).put (H4.next + 1) (AO.mem [AV.s x.A, AV.s x.B, AV.s x.C] 1 ty_string true 0)) = H6 at ap1
      have a6' := a6 (AO.mem [AV.s (kwF x.kind)] 1 ty_string true 0) (AO.mem [AV.s x.A, AV.s x.B, AV.s x.C] 1 ty_string true 0)
      have b6' := b6 (AO.mem [AV.s (kwF x.kind)] 1 ty_string true 0) (AO.mem [AV.s x.A, AV.s x.B, AV.s x.C] 1 ty_string true 0)
      rw [hH6] at a6' b6'
      have hE6 : Ext H.next (H.mark []) H6 := by rw [← hH6]; exact (hE5.put (by first | omega | (simp only [nx_push, nx_put, nx_mark]; try omega)) (by first | omega | (simp only [nx_push, nx_put, nx_mark]; try omega)) _).put (by first | omega | (simp only [nx_push, nx_put, nx_mark]; try omega)) (by first | omega | (simp only [nx_push, nx_put, nx_mark]; try omega)) _
      have hn6 : H6.next = H5.next := by rw [← hH6]; rfl
      simp (disch := first | omega | (simp only [List.length_cons, List.length_nil, true_and, and_true, nx_push, nx_put, nx_mark]; try omega)) only [go_sem, ↓reduceIte, Nat.reduceAdd, Nat.reduceMul, Nat.reduceSub, Int.reduceToNat, UInt8.reduceToNat, Nat.reduceLeDiff, Nat.reduceEqDiff, Nat.sub_zero, Int.add_zero, Int.zero_add, Nat.add_zero, Nat.zero_add, Nat.zero_mul, hnm, hH6, ap1, a4, b4, a5, b5, d4, d4', d5, d6, a6', b6']
      have hO : SlO 1 ty_string Rs (H3.next + 1) (H6.push (.mem [AV.s (kwF x.kind), AV.s x.A, AV.s x.B] 1 ty_string true 0)) (.sl H5.next 0 3 none) (kwF x.kind :: [x.A, x.B]) := SlO_fresh hn6 rfl (by omega)
      have hE7 := hE6.push (.mem [AV.s (kwF x.kind), AV.s x.A, AV.s x.B] 1 ty_string true 0) (by first | omega | (simp only [nx_push, nx_put, nx_mark]; try omega))
      have a7 : (H6.push (.mem [AV.s (kwF x.kind), AV.s x.A, AV.s x.B] 1 ty_string true 0)).get H.next = AO.mem [AV.i IntKind.i64 x.kind, AV.s x.A, AV.s x.B, AV.s x.C, AV.i IntKind.i64 x.N, g, AV.i IntKind.i64 x.at_] 0 ty_api_Fact true 0 := by simp (disch := first | omega | (simp only [List.length_cons, List.length_nil, true_and, and_true, nx_push, nx_put, nx_mark]; try omega)) only [go_sem, ↓reduceIte, Nat.reduceAdd, Nat.reduceMul, Nat.reduceSub, Int.reduceToNat, UInt8.reduceToNat, Nat.reduceLeDiff, Nat.reduceEqDiff, Nat.sub_zero, Int.add_zero, Int.zero_add, Nat.add_zero, Nat.zero_add, Nat.zero_mul, a6']
      have b7 : (H6.push (.mem [AV.s (kwF x.kind), AV.s x.A, AV.s x.B] 1 ty_string true 0)).get H3.next = AO.mem [AV.i IntKind.i64 F.kind, AV.i IntKind.i64 F.names, AV.b F.number, AV.i IntKind.i64 F.least, AV.i IntKind.i64 F.most] 0 ty_role_form true 0 := by simp (disch := first | omega | (simp only [List.length_cons, List.length_nil, true_and, and_true, nx_push, nx_put, nx_mark]; try omega)) only [go_sem, ↓reduceIte, Nat.reduceAdd, Nat.reduceMul, Nat.reduceSub, Int.reduceToNat, UInt8.reduceToNat, Nat.reduceLeDiff, Nat.reduceEqDiff, Nat.sub_zero, Int.add_zero, Int.zero_add, Nat.add_zero, Nat.zero_add, Nat.zero_mul, b6']
      have n7 : (H6.push (.mem [AV.s (kwF x.kind), AV.s x.A, AV.s x.B] 1 ty_string true 0)).next = H5.next + 1 := by rw [← hn6]; rfl
      generalize hH7 : (H6.push (.mem [AV.s (kwF x.kind), AV.s x.A, AV.s x.B] 1 ty_string true 0)) = H7 at *
      clear hH7
      have et : toldF x = joinF [32] (kwF x.kind :: [x.A, x.B] ++ (if F.number = true then [Lib.decDigits x.N.toNat] else []) ++ x.L) := by simp only [toldF, hF, hnm]; rfl
      cases hq : F.number with
      | false =>
        rw [hq] at et
        simp only [Bool.false_eq_true, if_false, List.append_nil] at et
        rw [et] at h hsz
        simp (disch := first | omega | (simp only [List.length_cons, List.length_nil, true_and, and_true, nx_push, nx_put, nx_mark]; try omega)) only [go_sem, ↓reduceIte, Nat.reduceAdd, Nat.reduceMul, Nat.reduceSub, Int.reduceToNat, UInt8.reduceToNat, Nat.reduceLeDiff, Nat.reduceEqDiff, Nat.sub_zero, Int.add_zero, Int.zero_add, Nat.add_zero, Nat.zero_add, Nat.zero_mul, a7, b7, hq]
        obtain ⟨cs, s1, s2, s3⟩ := (gr.mono Rs_mono (le_up (H := H.mark []) hE7 hw (Nat.le_refl _))).src
        refine onE_of (SlO.app Rs_mono hO hE7.wf (by omega) (Ext.refl hE7.wf) s1 s2 (Rs_cells s3 s2).2 ⟨s3.le, s3.el⟩ (by omega) rfl (by simp; omega) (by simp; omega)) (fun v8 H8 hh => ?_)
        obtain ⟨O8, E8, L8⟩ := hh
        have hE8 := hE7.trans E8 (by omega)
        have v8 := O8.one
        simp (disch := first | omega | (simp only [List.length_cons, List.length_nil, true_and, and_true, nx_push, nx_put, nx_mark]; try omega)) only [go_sem, ↓reduceIte, Nat.reduceAdd, Nat.reduceMul, Nat.reduceSub, Int.reduceToNat, UInt8.reduceToNat, Nat.reduceLeDiff, Nat.reduceEqDiff, Nat.sub_zero, Int.add_zero, Int.zero_add, Nat.add_zero, Nat.zero_add, Nat.zero_mul]
        refine Join_run ((O8.read Rs_mono).mono Rs_mono sn_le) (by simp; omega) hsz ?_
        have hm8 : H8.marks = [] := hE8.marks
        simp (disch := first | omega | (simp only [List.length_cons, List.length_nil, true_and, and_true, nx_push, nx_put, nx_mark]; try omega)) only [go_sem, ↓reduceIte, Nat.reduceAdd, Nat.reduceMul, Nat.reduceSub, Int.reduceToNat, UInt8.reduceToNat, Nat.reduceLeDiff, Nat.reduceEqDiff, Nat.sub_zero, Int.add_zero, Int.zero_add, Nat.add_zero, Nat.zero_add, Nat.zero_mul, hm8]
        exact h _ (Ext.mark hE8)
      | true =>
        rw [hq] at et
        simp only [if_true] at et
        rw [et] at h hsz
        have hI := fun (K : AV → Mem → Prop) => (okN.itoa (K := K) (okN.ext (H := H.mark []) hN hw hE7 (Nat.le_refl _)))
        simp (disch := first | omega | (simp only [List.length_cons, List.length_nil, true_and, and_true, nx_push, nx_put, nx_mark]; try omega)) only [go_sem, ↓reduceIte, Nat.reduceAdd, Nat.reduceMul, Nat.reduceSub, Int.reduceToNat, UInt8.reduceToNat, Nat.reduceLeDiff, Nat.reduceEqDiff, Nat.sub_zero, Int.add_zero, Int.zero_add, Nat.add_zero, Nat.zero_add, Nat.zero_mul, a7, b7, hq, hI]
        refine onE_of (SlO.app1 (x := Lib.decDigits x.N.toNat) Rs_mono hO hE7.wf (by omega) (Ext.refl hE7.wf) rfl rfl rfl (by omega) rfl (by simp) (by simp)) (fun v7 H7' hh => ?_)
        obtain ⟨O7, E7, L7⟩ := hh
        have hE7' := hE7.trans E7 (by omega)
        have v71 := O7.one
        have a7' := E7.of a7 (by omega)
        simp (disch := first | omega | (simp only [List.length_cons, List.length_nil, true_and, and_true, nx_push, nx_put, nx_mark]; try omega)) only [go_sem, ↓reduceIte, Nat.reduceAdd, Nat.reduceMul, Nat.reduceSub, Int.reduceToNat, UInt8.reduceToNat, Nat.reduceLeDiff, Nat.reduceEqDiff, Nat.sub_zero, Int.add_zero, Int.zero_add, Nat.add_zero, Nat.zero_add, Nat.zero_mul, a7']
        obtain ⟨cs, s1, s2, s3⟩ := (gr.mono Rs_mono (le_up (H := H.mark []) hE7' hw (Nat.le_refl _))).src
        refine onE_of (SlO.app Rs_mono O7 hE7'.wf (by omega) (Ext.refl hE7'.wf) s1 s2 (Rs_cells s3 s2).2 ⟨s3.le, s3.el⟩ (by omega) rfl (by simp; omega) (by simp; omega)) (fun v8 H8 hh => ?_)
        obtain ⟨O8, E8, L8⟩ := hh
        have hE8 := hE7'.trans E8 (by omega)
        simp (disch := first | omega | (simp only [List.length_cons, List.length_nil, true_and, and_true, nx_push, nx_put, nx_mark]; try omega)) only [go_sem, ↓reduceIte, Nat.reduceAdd, Nat.reduceMul, Nat.reduceSub, Int.reduceToNat, UInt8.reduceToNat, Nat.reduceLeDiff, Nat.reduceEqDiff, Nat.sub_zero, Int.add_zero, Int.zero_add, Nat.add_zero, Nat.zero_add, Nat.zero_mul]
        refine Join_run ((O8.read Rs_mono).mono Rs_mono sn_le) (by simp; omega) hsz ?_
        have hm8 : H8.marks = [] := hE8.marks
        simp (disch := first | omega | (simp only [List.length_cons, List.length_nil, true_and, and_true, nx_push, nx_put, nx_mark]; try omega)) only [go_sem, ↓reduceIte, Nat.reduceAdd, Nat.reduceMul, Nat.reduceSub, Int.reduceToNat, UInt8.reduceToNat, Nat.reduceLeDiff, Nat.reduceEqDiff, Nat.sub_zero, Int.add_zero, Int.zero_add, Nat.add_zero, Nat.zero_add, Nat.zero_mul, hm8]
        exact h _ (Ext.mark hE8)
    · have ap1 := ap 3 (by omega) (by omega)
      generalize hH6 : ((H5.put H4.next (AO.mem [AV.s (kwF x.kind)] 1 ty_string true 0)).put (H4.next + 1) (AO.mem [AV.s x.A, AV.s x.B, AV.s x.C] 1 ty_string true 0)) = H6 at ap1
      have a6' := a6 (AO.mem [AV.s (kwF x.kind)] 1 ty_string true 0) (AO.mem [AV.s x.A, AV.s x.B, AV.s x.C] 1 ty_string true 0)
      have b6' := b6 (AO.mem [AV.s (kwF x.kind)] 1 ty_string true 0) (AO.mem [AV.s x.A, AV.s x.B, AV.s x.C] 1 ty_string true 0)
      rw [hH6] at a6' b6'
      have hE6 : Ext H.next (H.mark []) H6 := by rw [← hH6]; exact (hE5.put (by first | omega | (simp only [nx_push, nx_put, nx_mark]; try omega)) (by first | omega | (simp only [nx_push, nx_put, nx_mark]; try omega)) _).put (by first | omega | (simp only [nx_push, nx_put, nx_mark]; try omega)) (by first | omega | (simp only [nx_push, nx_put, nx_mark]; try omega)) _
      have hn6 : H6.next = H5.next := by rw [← hH6]; rfl
      simp (disch := first | omega | (simp only [List.length_cons, List.length_nil, true_and, and_true, nx_push, nx_put, nx_mark]; try omega)) only [go_sem, ↓reduceIte, Nat.reduceAdd, Nat.reduceMul, Nat.reduceSub, Int.reduceToNat, UInt8.reduceToNat, Nat.reduceLeDiff, Nat.reduceEqDiff, Nat.sub_zero, Int.add_zero, Int.zero_add, Nat.add_zero, Nat.zero_add, Nat.zero_mul, hnm, hH6, ap1, a4, b4, a5, b5, d4, d4', d5, d6, a6', b6']
      have hO : SlO 1 ty_string Rs (H3.next + 1) (H6.push (.mem [AV.s (kwF x.kind), AV.s x.A, AV.s x.B, AV.s x.C] 1 ty_string true 0)) (.sl H5.next 0 4 none) (kwF x.kind :: [x.A, x.B, x.C]) := SlO_fresh hn6 rfl (by omega)
      have hE7 := hE6.push (.mem [AV.s (kwF x.kind), AV.s x.A, AV.s x.B, AV.s x.C] 1 ty_string true 0) (by first | omega | (simp only [nx_push, nx_put, nx_mark]; try omega))
      have a7 : (H6.push (.mem [AV.s (kwF x.kind), AV.s x.A, AV.s x.B, AV.s x.C] 1 ty_string true 0)).get H.next = AO.mem [AV.i IntKind.i64 x.kind, AV.s x.A, AV.s x.B, AV.s x.C, AV.i IntKind.i64 x.N, g, AV.i IntKind.i64 x.at_] 0 ty_api_Fact true 0 := by simp (disch := first | omega | (simp only [List.length_cons, List.length_nil, true_and, and_true, nx_push, nx_put, nx_mark]; try omega)) only [go_sem, ↓reduceIte, Nat.reduceAdd, Nat.reduceMul, Nat.reduceSub, Int.reduceToNat, UInt8.reduceToNat, Nat.reduceLeDiff, Nat.reduceEqDiff, Nat.sub_zero, Int.add_zero, Int.zero_add, Nat.add_zero, Nat.zero_add, Nat.zero_mul, a6']
      have b7 : (H6.push (.mem [AV.s (kwF x.kind), AV.s x.A, AV.s x.B, AV.s x.C] 1 ty_string true 0)).get H3.next = AO.mem [AV.i IntKind.i64 F.kind, AV.i IntKind.i64 F.names, AV.b F.number, AV.i IntKind.i64 F.least, AV.i IntKind.i64 F.most] 0 ty_role_form true 0 := by simp (disch := first | omega | (simp only [List.length_cons, List.length_nil, true_and, and_true, nx_push, nx_put, nx_mark]; try omega)) only [go_sem, ↓reduceIte, Nat.reduceAdd, Nat.reduceMul, Nat.reduceSub, Int.reduceToNat, UInt8.reduceToNat, Nat.reduceLeDiff, Nat.reduceEqDiff, Nat.sub_zero, Int.add_zero, Int.zero_add, Nat.add_zero, Nat.zero_add, Nat.zero_mul, b6']
      have n7 : (H6.push (.mem [AV.s (kwF x.kind), AV.s x.A, AV.s x.B, AV.s x.C] 1 ty_string true 0)).next = H5.next + 1 := by rw [← hn6]; rfl
      generalize hH7 : (H6.push (.mem [AV.s (kwF x.kind), AV.s x.A, AV.s x.B, AV.s x.C] 1 ty_string true 0)) = H7 at *
      clear hH7
      have et : toldF x = joinF [32] (kwF x.kind :: [x.A, x.B, x.C] ++ (if F.number = true then [Lib.decDigits x.N.toNat] else []) ++ x.L) := by simp only [toldF, hF, hnm]; rfl
      cases hq : F.number with
      | false =>
        rw [hq] at et
        simp only [Bool.false_eq_true, if_false, List.append_nil] at et
        rw [et] at h hsz
        simp (disch := first | omega | (simp only [List.length_cons, List.length_nil, true_and, and_true, nx_push, nx_put, nx_mark]; try omega)) only [go_sem, ↓reduceIte, Nat.reduceAdd, Nat.reduceMul, Nat.reduceSub, Int.reduceToNat, UInt8.reduceToNat, Nat.reduceLeDiff, Nat.reduceEqDiff, Nat.sub_zero, Int.add_zero, Int.zero_add, Nat.add_zero, Nat.zero_add, Nat.zero_mul, a7, b7, hq]
        obtain ⟨cs, s1, s2, s3⟩ := (gr.mono Rs_mono (le_up (H := H.mark []) hE7 hw (Nat.le_refl _))).src
        refine onE_of (SlO.app Rs_mono hO hE7.wf (by omega) (Ext.refl hE7.wf) s1 s2 (Rs_cells s3 s2).2 ⟨s3.le, s3.el⟩ (by omega) rfl (by simp; omega) (by simp; omega)) (fun v8 H8 hh => ?_)
        obtain ⟨O8, E8, L8⟩ := hh
        have hE8 := hE7.trans E8 (by omega)
        have v8 := O8.one
        simp (disch := first | omega | (simp only [List.length_cons, List.length_nil, true_and, and_true, nx_push, nx_put, nx_mark]; try omega)) only [go_sem, ↓reduceIte, Nat.reduceAdd, Nat.reduceMul, Nat.reduceSub, Int.reduceToNat, UInt8.reduceToNat, Nat.reduceLeDiff, Nat.reduceEqDiff, Nat.sub_zero, Int.add_zero, Int.zero_add, Nat.add_zero, Nat.zero_add, Nat.zero_mul]
        refine Join_run ((O8.read Rs_mono).mono Rs_mono sn_le) (by simp; omega) hsz ?_
        have hm8 : H8.marks = [] := hE8.marks
        simp (disch := first | omega | (simp only [List.length_cons, List.length_nil, true_and, and_true, nx_push, nx_put, nx_mark]; try omega)) only [go_sem, ↓reduceIte, Nat.reduceAdd, Nat.reduceMul, Nat.reduceSub, Int.reduceToNat, UInt8.reduceToNat, Nat.reduceLeDiff, Nat.reduceEqDiff, Nat.sub_zero, Int.add_zero, Int.zero_add, Nat.add_zero, Nat.zero_add, Nat.zero_mul, hm8]
        exact h _ (Ext.mark hE8)
      | true =>
        rw [hq] at et
        simp only [if_true] at et
        rw [et] at h hsz
        have hI := fun (K : AV → Mem → Prop) => (okN.itoa (K := K) (okN.ext (H := H.mark []) hN hw hE7 (Nat.le_refl _)))
        simp (disch := first | omega | (simp only [List.length_cons, List.length_nil, true_and, and_true, nx_push, nx_put, nx_mark]; try omega)) only [go_sem, ↓reduceIte, Nat.reduceAdd, Nat.reduceMul, Nat.reduceSub, Int.reduceToNat, UInt8.reduceToNat, Nat.reduceLeDiff, Nat.reduceEqDiff, Nat.sub_zero, Int.add_zero, Int.zero_add, Nat.add_zero, Nat.zero_add, Nat.zero_mul, a7, b7, hq, hI]
        refine onE_of (SlO.app1 (x := Lib.decDigits x.N.toNat) Rs_mono hO hE7.wf (by omega) (Ext.refl hE7.wf) rfl rfl rfl (by omega) rfl (by simp) (by simp)) (fun v7 H7' hh => ?_)
        obtain ⟨O7, E7, L7⟩ := hh
        have hE7' := hE7.trans E7 (by omega)
        have v71 := O7.one
        have a7' := E7.of a7 (by omega)
        simp (disch := first | omega | (simp only [List.length_cons, List.length_nil, true_and, and_true, nx_push, nx_put, nx_mark]; try omega)) only [go_sem, ↓reduceIte, Nat.reduceAdd, Nat.reduceMul, Nat.reduceSub, Int.reduceToNat, UInt8.reduceToNat, Nat.reduceLeDiff, Nat.reduceEqDiff, Nat.sub_zero, Int.add_zero, Int.zero_add, Nat.add_zero, Nat.zero_add, Nat.zero_mul, a7']
        obtain ⟨cs, s1, s2, s3⟩ := (gr.mono Rs_mono (le_up (H := H.mark []) hE7' hw (Nat.le_refl _))).src
        refine onE_of (SlO.app Rs_mono O7 hE7'.wf (by omega) (Ext.refl hE7'.wf) s1 s2 (Rs_cells s3 s2).2 ⟨s3.le, s3.el⟩ (by omega) rfl (by simp; omega) (by simp; omega)) (fun v8 H8 hh => ?_)
        obtain ⟨O8, E8, L8⟩ := hh
        have hE8 := hE7'.trans E8 (by omega)
        simp (disch := first | omega | (simp only [List.length_cons, List.length_nil, true_and, and_true, nx_push, nx_put, nx_mark]; try omega)) only [go_sem, ↓reduceIte, Nat.reduceAdd, Nat.reduceMul, Nat.reduceSub, Int.reduceToNat, UInt8.reduceToNat, Nat.reduceLeDiff, Nat.reduceEqDiff, Nat.sub_zero, Int.add_zero, Int.zero_add, Nat.add_zero, Nat.zero_add, Nat.zero_mul]
        refine Join_run ((O8.read Rs_mono).mono Rs_mono sn_le) (by simp; omega) hsz ?_
        have hm8 : H8.marks = [] := hE8.marks
        simp (disch := first | omega | (simp only [List.length_cons, List.length_nil, true_and, and_true, nx_push, nx_put, nx_mark]; try omega)) only [go_sem, ↓reduceIte, Nat.reduceAdd, Nat.reduceMul, Nat.reduceSub, Int.reduceToNat, UInt8.reduceToNat, Nat.reduceLeDiff, Nat.reduceEqDiff, Nat.sub_zero, Int.add_zero, Int.zero_add, Nat.add_zero, Nat.zero_add, Nat.zero_mul, hm8]
        exact h _ (Ext.mark hE8)
end Go.Fw.Ro
end
