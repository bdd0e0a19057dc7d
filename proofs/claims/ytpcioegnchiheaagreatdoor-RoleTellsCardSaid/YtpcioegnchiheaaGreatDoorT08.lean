/- The law RoleTells (entaillaw13) answers true at every input, without a panic, and its arguments read as they did; there are no conditions beyond those of the given card. -/
import Derived.Test.YtpcioegnchiheaaGreatDoorT07
import Derived.Test.YtpcioegnchiheaaGreatDoorT03
import Derived.Test.YtpcioegnchiheaaGreatDoorCards
import Derived.Test.YtpcioegnchiheaaGreatDoorTie
set_option linter.unusedSimpArgs false
set_option linter.unusedVariables false
set_option linter.constructorNameAsVariable false
set_option linter.unnecessarySimpa false
section
/- The law RoleTells (entaillaw13) answers true at every input, without a panic, and its arguments read as they did; there are no conditions beyond those of the given card. -/
namespace Go.Proofs.YtpcioegnchiheaaGreatDoor
open Go Go.Fw Go.ChangeShapes Go.WideShapes Go.ChangeAt Go.RowKit
theorem own : ownKnob Tryz.prog.godebug = none := by kernel_rfl
theorem laidOut : laidOutB Tryz.prog = true := by kernel_rfl
theorem draws_ok : DregOK Tryz.prog Ro.S.dr := drAB_ok (by kernel_rfl)
/-- A slice of integers, as what is read alone. -/
theorem ints_open {H : Type} {enc : TypeId × Value → H} {P : Program} {W : World} {t e : TypeId} {v : Value} {d : DataW H} {p : List MemPlace} {r : Reach} {b0 : Nat} (ht : P.underlying t = some (.slice e)) (he : P.underlying e = some (.int .i64)) (hc : P.cellsOf e = 1)
    (hok : Value.okWide P W r b0 t v) (h : DataW.Trod enc P W 0 (fun _ => true) true t v d p) {μ : Mp} {Hm : Mem} (hr : Rep P (bdR W.heap.size) W μ Hm W) (hw : Sys.Wf Hm) :
    ∃ av xs μ' Hm', Rep P (bdR W.heap.size) W μ' Hm' W ∧ μ.le μ' ∧ Sys.Wf Hm' ∧ VR μ' av v ∧ Sys.SlR 1 Ro.Ri Hm'.get av xs ∧ (∀ g, g < Hm.next → Hm'.get g = Hm.get g) := by
  obtain ⟨a0, len0, cap0, rfl⟩ := okWide_slice ht hok
  obtain ⟨n, hn⟩ := h
  rcases open_ints ht he hc hn with ⟨hcs, _⟩ | ⟨a, len, cap, zs, hcs, _, hl, hm, hz, _, hcell, _⟩
  · simp [Value.cells] at hcs
    obtain ⟨rfl, rfl, rfl⟩ := hcs
    exact ⟨.nsl, [], μ, Hm, hr, Mp.le_refl _, hw, by simp [VR], .inl ⟨rfl, .inl rfl⟩, fun _ _ => rfl⟩
  · simp [Value.cells] at hcs
    obtain ⟨rfl, rfl, rfl⟩ := hcs
    simp only [if_true] at hz
    by_cases h0 : len0 = 0
    · subst h0
      exact ⟨.esl, [], μ, Hm, hr, Mp.le_refl _, hw, by simp [VR], .inl ⟨rfl, .inr rfl⟩, fun _ _ => rfl⟩
    · have hc0 := hcell 0 (by omega)
      obtain ⟨bk, off, spot⟩ := a
      have hspot : spot = none := by
        have h1 : (⟨bk, off, spot⟩ : Addr).add 0 = ⟨bk, off, spot⟩ := by simp [Addr.add]
        rw [h1] at hc0
        unfold World.cell? at hc0
        split at hc0
        · cases spot with
          | none => rfl
          | some x => simp at hc0
        · cases hc0
      subst hspot
      obtain ⟨cs, tt, fr, hb⟩ : ∃ cs tt fr, W.heap[bk]? = some (.cells cs tt fr) := by
        have h1 : (⟨bk, off, none⟩ : Addr).add 0 = ⟨bk, off, none⟩ := by simp [Addr.add]
        rw [h1] at hc0
        unfold World.cell? at hc0
        split at hc0
        · rename_i c t f hb; exact ⟨c, t, f, hb⟩
        · cases hc0
      have hcs : ∀ i, i < zs.length → cs[off + i]? = some (.int .i64 (zs.getD i 0)) := fun i hi => by
        have := hcell i hi
        have e : (⟨bk, off, none⟩ : Addr).add i = ⟨bk, off + i, none⟩ := by
          simp only [Addr.add]
          split
          · rename_i e0; subst e0; rfl
          · rfl
        rw [e] at this
        simpa only [World.cell?, hb, Option.isSome_none, Bool.false_eq_true, if_false] using this
      have hsz : off + cap0 ≤ cs.size := by
        have := (Array.getElem?_eq_some_iff.1 (hcs (cap0 - 1) (by omega))).1
        omega
      have hlt : bk < W.heap.size := (Array.getElem?_eq_some_iff.1 hb).1
      refine ⟨.sl Hm.next 0 len0 none, zs.take len0, _, _, hr.pushRo (k := ⟨bk, off, off + cap0, 1⟩) (o := .mem (zs.map fun z => AV.i .i64 z) 1 tt false 0) rfl ⟨cs, fr, hb, hsz, by simp; omega, rfl, fun j x hx => ?_, fun e => by cases e⟩ hlt, hr.le _, hw.push _, ?_, ?_, fun g hg => ?_⟩
      · simp only [List.getElem?_map, Option.map_eq_some_iff] at hx
        obtain ⟨z, hz1, rfl⟩ := hx
        have hj : j < zs.length := (List.getElem?_eq_some_iff.1 hz1).1
        refine ⟨_, hcs j hj, ?_⟩
        simp only [VR, List.getD, hz1, Option.getD_some]
      · simp only [VR]
        refine ⟨.inl rfl, cap0, ?_, hl, ?_, fun c' e => by cases e⟩
        · rw [Mp.push_f]; rfl
        · rw [Mp.push_f]; simp only; omega
      · refine .inr ⟨Hm.next, 0, none, _, tt, false, 0, ?_, by rw [Mem.get_push, if_pos rfl], fun c e => (by cases e), ⟨by simp; omega, fun j x hx => ?_⟩⟩
        · rw [List.length_take, Nat.min_eq_left (by omega)]
        · have hj : j < len0 := by
            have := (List.getElem?_eq_some_iff.1 hx).1
            simp at this; omega
          rw [List.getElem?_take_of_lt hj] at hx
          show _ = _
          have h1 : (zs.map fun z => AV.i .i64 z)[j]? = some (.i .i64 x) := by rw [List.getElem?_map, hx]; rfl
          obtain ⟨h2, h3⟩ := List.getElem?_eq_some_iff.1 h1
          simp only [Nat.mul_one, Nat.zero_add]
          rw [List.drop_eq_getElem_cons h2, h3]; rfl
      · rw [Mem.get_push, if_neg (by omega)]
set_option maxRecDepth 100000 in
/-- A slice of words, as what is read alone. -/
theorem words_open {H : Type} {enc : TypeId × Value → H} {W : World} {fuel : Nat} {c : List Value} {x : DataW H × List MemPlace}
    (h : DataW.trod enc Tryz.prog W 0 (fun _ => true) true fuel 23 c = some x) {μ : Mp} {Hm : Mem} (hr : Rep Tryz.prog (bdR W.heap.size) W μ Hm W) (hw : Sys.Wf Hm) :
    ∃ v av ws μ' Hm', c = [v] ∧ Rep Tryz.prog (bdR W.heap.size) W μ' Hm' W ∧ μ.le μ' ∧ Sys.Wf Hm' ∧ VR μ' av v ∧ Sys.SlR 2 Ro.Rword Hm'.get av ws ∧ (∀ g, g < Hm.next → Hm'.get g = Hm.get g) := by
  have c2 : Tryz.prog.cellsOf 28 = 2 := by kernel_rfl
  have cS : Tryz.prog.cellsOf 9 = 1 := by kernel_rfl
  have cI : Tryz.prog.cellsOf 3 = 1 := by kernel_rfl
  rcases DataW.trod_slice Tryz.underlying23 h with ⟨rfl, _⟩ | ⟨a, len, cap, elems, rest, n, _, rfl, _, _, hl, hm, hlen, hel, hsp, _⟩
  · exact ⟨_, .nsl, [], μ, Hm, rfl, hr, Mp.le_refl _, hw, by simp [VR], .inl ⟨rfl, .inl rfl⟩, fun _ _ => rfl⟩
  · by_cases h0 : len = 0
    · subst h0
      exact ⟨_, .esl, [], μ, Hm, rfl, hr, Mp.le_refl _, hw, by simp [VR], .inl ⟨rfl, .inr rfl⟩, fun _ _ => rfl⟩
    · have hrest := (hsp rfl)
      have each : ∀ i, i < cap → ∃ (s : ByteArray) (k : Int), W.cell? (a.add (i * 2)) = some (.string s) ∧ W.cell? ((a.add (i * 2)).add 1) = some (.int .i64 k) := fun i hi => by
        have hb : ∃ y, (W.cells? 0 (a.add (i * 2)) 2).bind (DataW.trod enc Tryz.prog W 0 (fun _ => true) true n 28) = some y := by
          by_cases hi2 : i < len
          · have := hel i hi2
            rw [c2] at this
            exact ⟨elems[i]'(by omega), by rw [this]; simp⟩
          · have := hrest.2 (i - len) (by omega)
            rw [c2, show len + (i - len) = i by omega] at this
            exact ⟨rest[i - len]'(by omega), by rw [this]; simp⟩
        obtain ⟨y, hy⟩ := hb
        rw [Option.bind_eq_some_iff] at hy
        obtain ⟨cs', hcs, hy'⟩ := hy
        obtain ⟨_, hcl, hci⟩ := World.cells?_some hcs
        obtain ⟨y0, y1, n', _, _, t0, t1⟩ := trod_struct2 Tryz.underlying28 hy'
        simp only [cS, cI] at t0 t1
        obtain ⟨s, e0, _, _⟩ := DataW.trod_string Tryz.underlying9 t0
        obtain ⟨k, e1, _, _⟩ := DataW.trod_int Tryz.underlying3 t1
        have q0 : cs'[0]? = some (.string s) := by
          have := congrArg (fun l => l[0]?) e0
          simpa [List.getElem?_take, List.getElem?_drop] using this
        have q1 : cs'[1]? = some (.int .i64 k) := by
          have := congrArg (fun l => l[0]?) e1
          simpa [List.getElem?_take, List.getElem?_drop] using this
        have z0 := hci 0 (by omega)
        have z1 := hci 1 (by omega)
        refine ⟨s, k, ?_, by rw [z1, q1]⟩
        rw [← q0, ← z0]
        simp [Addr.add]
      obtain ⟨bk, off, spot⟩ := a
      have hc0 : ∃ s : ByteArray, W.cell? ⟨bk, off, spot⟩ = some (.string s) := by
        obtain ⟨s, k, h1, _⟩ := each 0 (by omega)
        exact ⟨s, by simpa [Addr.add] using h1⟩
      obtain ⟨s0, hc0⟩ := hc0
      have hspot : spot = none := by
        unfold World.cell? at hc0
        split at hc0
        · cases spot with
          | none => rfl
          | some x => simp at hc0
        · cases hc0
      subst hspot
      have add0 : ∀ i, (⟨bk, off, none⟩ : Addr).add i = ⟨bk, off + i, none⟩ := fun i => by
        simp only [Addr.add]
        split
        · rename_i e0; subst e0; rfl
        · rfl
      obtain ⟨cs, tt, fr, hb⟩ : ∃ cs tt fr, W.heap[bk]? = some (.cells cs tt fr) := by
        unfold World.cell? at hc0
        split at hc0
        · rename_i c t f hb; exact ⟨c, t, f, hb⟩
        · cases hc0
      have hcs : ∀ i, i < cap → ∃ (s : ByteArray) (k : Int), cs[off + i * 2]? = some (.string s) ∧ cs[off + i * 2 + 1]? = some (.int .i64 k) := fun i hi => by
        obtain ⟨s, k, h1, h2⟩ := each i hi
        rw [add0] at h1 h2
        have e : (⟨bk, off + i * 2, none⟩ : Addr).add 1 = ⟨bk, off + i * 2 + 1, none⟩ := by simp [Addr.add]
        rw [e] at h2
        simp only [World.cell?, hb, Option.isSome_none, Bool.false_eq_true, if_false] at h1 h2
        exact ⟨s, k, h1, h2⟩
      have hsz : off + cap * 2 ≤ cs.size := by
        obtain ⟨s, k, _, h2⟩ := hcs (cap - 1) (by omega)
        have := (Array.getElem?_eq_some_iff.1 h2).1
        omega
      have hlt : bk < W.heap.size := (Array.getElem?_eq_some_iff.1 hb).1
      obtain ⟨ws, hwl, hws⟩ : ∃ ws : List (List UInt8 × Int), ws.length = len ∧ ∀ i w, ws[i]? = some w → cs[off + i * 2]? = some (.string ⟨w.1.toArray⟩) ∧ cs[off + i * 2 + 1]? = some (.int .i64 w.2) := by
        have key : ∀ m, m ≤ len → ∃ ws : List (List UInt8 × Int), ws.length = m ∧ ∀ i w, ws[i]? = some w → cs[off + i * 2]? = some (.string ⟨w.1.toArray⟩) ∧ cs[off + i * 2 + 1]? = some (.int .i64 w.2) := by
          intro m
          induction m with
          | zero => exact fun _ => ⟨[], rfl, fun i w hi => by simp at hi⟩
          | succ m ih =>
            intro hm
            obtain ⟨ws, h1, h2⟩ := ih (by omega)
            obtain ⟨s, k, e1, e2⟩ := hcs m (by omega)
            refine ⟨ws ++ [(s.data.toList, k)], by simp [h1], fun i w hi => ?_⟩
            by_cases hi2 : i < ws.length
            · rw [List.getElem?_append_left hi2] at hi
              exact h2 i w hi
            · have hi3 : i = m := by
                have := (List.getElem?_eq_some_iff.1 hi).1
                simp at this; omega
              subst hi3
              rw [List.getElem?_append_right (by omega)] at hi
              simp [h1] at hi
              subst hi
              exact ⟨by simpa using e1, e2⟩
        exact key len (Nat.le_refl _)
      let cells : List AV := (ws.map fun w => ([.s w.1, .i .i64 w.2] : List AV)).flatten
      have hflat : ∀ (l : List (List UInt8 × Int)), ((l.map fun w => ([.s w.1, .i .i64 w.2] : List AV)).flatten).length = l.length * 2 := by
        intro l
        induction l with
        | nil => rfl
        | cons w l ih => simp only [List.map_cons, List.flatten_cons, List.length_append, ih, List.length_cons, List.length_nil]; omega
      have hcell : ∀ (l : List (List UInt8 × Int)) (i : Nat) (w : List UInt8 × Int), l[i]? = some w → (((l.map fun w => ([.s w.1, .i .i64 w.2] : List AV)).flatten).drop (i * 2)).take 2 = [.s w.1, .i .i64 w.2] := by
        intro l
        induction l with
        | nil => intro i w hi; simp at hi
        | cons u l ih =>
          intro i w hi
          cases i with
          | zero => simp at hi; subst hi; rfl
          | succ i =>
            simp only [List.getElem?_cons_succ] at hi
            have := ih i w hi
            simp only [List.map_cons, List.flatten_cons]
            rw [show (i + 1) * 2 = ([AV.s u.1, AV.i .i64 u.2] : List AV).length + i * 2 by simp; omega, ← List.drop_drop, List.drop_left]
            exact this
      have hall : ∀ (j : Nat) (y : AV), cells[j]? = some y → ∃ v, cs[off + j]? = some v ∧ VR (μ.push Hm.next ⟨bk, off, off + cap * 2, 2⟩) y v := fun j y hy => by
        have hjl : j < ws.length * 2 := by rw [← hflat ws]; exact (List.getElem?_eq_some_iff.1 hy).1
        obtain ⟨w, hw1⟩ : ∃ w, ws[j / 2]? = some w := ⟨ws[j / 2]'(by omega), by simp⟩
        have hc := hcell ws _ w hw1
        obtain ⟨g1, g2⟩ := hws _ w hw1
        have hidx : cells[j]? = ([.s w.1, .i .i64 w.2] : List AV)[j % 2]? := by
          rw [← hc, List.getElem?_take_of_lt (Nat.mod_lt _ (by omega)), List.getElem?_drop]
          congr 1; omega
        rw [hidx] at hy
        rcases (by omega : j % 2 = 0 ∨ j % 2 = 1) with e | e
        · rw [e] at hy
          simp at hy; subst hy
          exact ⟨_, by rw [show off + j = off + j / 2 * 2 by omega]; exact g1, by simp [VR]⟩
        · rw [e] at hy
          simp at hy; subst hy
          exact ⟨_, by rw [show off + j = off + j / 2 * 2 + 1 by omega]; exact g2, by simp [VR]⟩
      have hclen : cells.length = len * 2 := by rw [← hwl]; exact hflat ws
      refine ⟨_, .sl Hm.next 0 len none, ws, _, _, rfl, hr.pushRo (k := ⟨bk, off, off + cap * 2, 2⟩) (o := .mem cells 2 tt false 0) rfl ⟨cs, fr, hb, hsz, by show off + cells.length ≤ off + cap * 2; omega, rfl, hall, fun e => by cases e⟩ hlt, hr.le _, hw.push _, ?_, ?_, fun g hg => ?_⟩
      · simp only [VR]
        refine ⟨.inl rfl, cap, ?_, hl, ?_, fun c' e => by cases e⟩
        · rw [Mp.push_f]; rfl
        · rw [Mp.push_f]; simp only; omega
      · refine .inr ⟨Hm.next, 0, none, cells, tt, false, 0, by rw [hwl], by rw [Mem.get_push, if_pos rfl], fun c e => (by cases e), ⟨by show 0 + ws.length * 2 ≤ cells.length; omega, fun j y hy => ?_⟩⟩
        show _ = _
        rw [Nat.zero_add]
        exact hcell ws j y hy
      · rw [Mem.get_push, if_neg (by omega)]
set_option maxRecDepth 100000 in
theorem tells_walk {H : Type} {enc : TypeId × Value → H} {W : World} {v1 v5 : Value} {d1 d5 : DataW H} {p1 p5 : List MemPlace} {b0 : Nat} (hok1 : Value.okWide Tryz.prog W .any b0 22 v1) (hA1 : DataW.Trod enc Tryz.prog W 0 (fun _ => true) true 22 v1 d1 p1)
    (hok5 : Value.okWide Tryz.prog W .any b0 25 v5) (hA5 : DataW.Trod enc Tryz.prog W 0 (fun _ => true) true 25 v5 d5 p5) (s : ByteArray) (wh : Bool) (at_ by_ : Int) :
    Calls Tryz.prog 3 #[.string s, v1, .bool wh, .int .i64 at_, .int .u8 by_, v5] W fun e W' => e = .returned (.bool true) ∧ Below W.heap.size W W' := by
  have hr0 := repR Tryz.prog W Tryz.prog.globals.size
  obtain ⟨av, xs, μ1, H1, hr1, hle1, hw1, hav1, hs1, hk1⟩ := ints_open Tryz.underlying22 Tryz.underlying2 (by kernel_rfl) hok1 hA1 hr0 (wf_mem0 _)
  obtain ⟨cs, rfl, hsz⟩ := okWide_struct Tryz.underlying25 hok5
  have c25 : Tryz.prog.cellsOf 25 = 2 := by kernel_rfl
  have cI : Tryz.prog.cellsOf 3 = 1 := by kernel_rfl
  have cW : Tryz.prog.cellsOf 23 = 1 := by kernel_rfl
  rw [c25] at hsz
  obtain ⟨fuel, hf⟩ := hA5
  obtain ⟨y0, y1, n', _, _, t0, t1⟩ := trod_struct2 Tryz.underlying25 hf
  simp only [cI, cW] at t0 t1
  obtain ⟨k, e0, _, _⟩ := DataW.trod_int Tryz.underlying3 t0
  obtain ⟨rv, arv, ws, μ2, H2, e1, hr2, hle2, hw2, hav2, hs2, hk2⟩ := words_open t1 hr1 hw1
  have hcs : cs.toList = [.int .i64 k, rv] := by
    obtain ⟨l⟩ := cs
    have hl : l.length = 2 := hsz
    match l, hl with
    | [a, b], _ =>
      have q0 : [a] = [Value.int .i64 k] := by simpa [Value.cells] using e0
      have q1 : [b] = [rv] := by simpa [Value.cells] using e1
      simp at q0 q1
      subst q0; subst q1; rfl
  have hs1' : Sys.SlR 1 Ro.Ri H2.get av xs := hs1.mono Ro.Ri_mono (fun id hd => hk2 id (by
    exact hw1 id hd))
  refine (close1 (S := Ro.S) (f := 3) (args := [.s s.data.toList, av, .b wh, .i .i64 at_, .i .u8 by_, .agg [.i .i64 k, arv]]) (us := #[.string s, v1, .bool wh, .int .i64 at_, .int .u8 by_, .agg cs]) (K := fun v _ => v = .b true) draws_ok (fun _ _ => Ro.X_ok) Ro.F_ok hr2 (gl_le (gl0 _) (Mp.le_trans hle1 hle2)) rfl (Ro.Tells_run hw2 hs1' hs2 fun _ => rfl) ?_).mono ?_
  · refine ⟨_, _, rfl, ?_, v1, _, rfl, VR.mono hle2 hav1, _, _, rfl, rfl, _, _, rfl, rfl, _, _, rfl, rfl, _, _, rfl, ⟨cs, rfl, ?_⟩, rfl⟩
    · simp [VR]
    · rw [hcs]
      exact ⟨_, _, rfl, rfl, rv, [], rfl, hav2, rfl⟩
  · rintro e W' ⟨c, μ', v, H', rfl, hv, rfl, hb⟩
    simp only [VR] at hv
    subst hv
    exact ⟨rfl, hb⟩
abbrev laid0 := Rows.roleTellsRow.laid
set_option maxRecDepth 100000 in
theorem tells_lifted (os : Os) (started : os.Started) (H : Type) (enc : TypeId × Value → H) :
    ReturnsInHanded {} Tryz.checked os 3 .any (fun w args => (Rows.roleTellsSpec.pre enc Tryz.prog Tryz.f3 [] false w args ∧ laidMetH Tryz.prog laid0 w) ∧ sizedMet enc Tryz.prog Tryz.f3 (OpenSpec.ofChange Rows.roleTellsSpec) false w args)
      (Rows.roleTellsSpec.post enc Tryz.prog Tryz.f3 false true false false) := by
  refine returnsInHanded_of_change_and (C := Tryz.checked) (X := fun w _ => laidMetH Tryz.prog laid0 w) (fun _ _ _ hh h => h.of_heap hh) own started (by kernel_rfl) Tryz.func3
    (ChangeSpec.witness_shaped (enc := enc) (C := Tryz.checked) (os := os) (X := fun w _ => laidMetH Tryz.prog laid0 w) false (World.laidAll Tryz.prog os laid0) #[.string ⟨#[]⟩, .slice none 0 0, .bool false, .int .i64 0, .int .u8 0, .agg #[.int .i64 0, .slice none 0 0]] 8 (World.laidAll_os _ _ _)
      (World.shaped_of_ZipB (by kernel_rfl) (by kernel_rfl)) (by kernel_rfl) (by kernel_rfl) (by kernel_rfl)
      (by rw [MakeChecks.laidMetH_plain _ _ _ (by kernel_rfl)]; exact laidMet_laidAll _ (by kernel_rfl) (by kernel_rfl))) ?_
  intro W base args ds gs before hval0 hW _ _ hL _
  have hval : ∀ (j : Nat) t v, Tryz.f3.params[j]? = some t → args[j]? = some v → Value.okWide Tryz.prog W .any base t v := hval0
  have hW' := hW
  obtain ⟨p, q, hA0, hV, rfl, _, _⟩ := hW
  have hA : DataW.TrodAll enc Tryz.prog W 0 (fun _ => true) true Tryz.f3.params.toList args.toList ds p := hA0
  rw [Tryz.params3] at hA hval
  obtain ⟨v0, vs1, d0, ds1, p0, q0, hargs, rfl, _, h0, hA1⟩ := trodAll_cons hA
  obtain ⟨v1, vs2, d1, ds2, p1, q1, rfl, rfl, _, h1, hA2⟩ := trodAll_cons hA1
  obtain ⟨v2, vs3, d2, ds3, p2, q2, rfl, rfl, _, h2, hA3⟩ := trodAll_cons hA2
  obtain ⟨v3, vs4, d3, ds4, p3, q3, rfl, rfl, _, h3, hA4⟩ := trodAll_cons hA3
  obtain ⟨v4, vs5, d4, ds5, p4, q4, rfl, rfl, _, h4, hA5⟩ := trodAll_cons hA4
  obtain ⟨v5, vs6, d5, ds6, p5, q5, rfl, rfl, _, h5, hA6⟩ := trodAll_cons hA5
  obtain ⟨rfl, rfl, _⟩ := trodAll_nil hA6
  have ha : args = #[v0, v1, v2, v3, v4, v5] := by rw [← Array.toArray_toList (xs := args), hargs]
  subst ha
  obtain ⟨s0, rfl, rfl, rfl, _⟩ := Go.ChangeMaps.open_string Tryz.underlying9 (hval 0 9 v0 rfl rfl) h0
  obtain ⟨b2, rfl, rfl, rfl⟩ := open_bool Tryz.underlying4 (hval 2 4 v2 rfl rfl) h2
  obtain ⟨x3, rfl, rfl, rfl, _⟩ := open_int Tryz.underlying3 (hval 3 3 v3 rfl rfl) h3
  obtain ⟨x4, rfl, rfl, rfl, _⟩ := open_int Tryz.underlying5 (hval 4 5 v4 rfl rfl) h4
  refine (tells_walk (hval 1 22 v1 rfl rfl) h1 (hval 5 25 v5 rfl rfl) h5 s0 b2 x3 x4).mono fun e W' ⟨he, hw⟩ => ?_
  subst he
  exact ⟨_, rfl, post_true laidOut (f := Tryz.f3) (tb := 4) (by kernel_rfl) rfl Tryz.underlying4 rfl (fun d hd => by
    rw [Tryz.params3] at hd
    match d, hd with
    | [d, e, f, g, h, i], _ => rfl) hW' hw⟩
theorem tells_holds : Rows.RoleTellsSaid :=
  OpenClaim.holds_of_wide 3 Tryz.f3 rfl rfl rfl rfl rfl rfl rfl ⟨rfl, rfl, rfl, rfl, rfl⟩ rfl rfl rfl rfl rfl (by kernel_rfl) Tryz.func3 (by kernel_rfl)
    (of_decide_eq_true (by kernel_rfl)) (by unfold Func.isWrapper; first | (rw [if_pos (by decide +kernel)]; kernel_rfl) | (rw [if_neg (by decide +kernel)]; exact ⟨rfl, rfl⟩))
    (fun os started H enc _ => tells_lifted os started H enc)
theorem roleTells_card : Rows.RoleTellsCardSaid :=
  Claim7.holds_tied_plain_at .later [] [.data, .data, .data, .data, .sentinel, .sentinel, .pinned] true (true, "668fd0b40541ae816ba779a581f65c0f722e00e6df04be3f9073d1e247a7940e") true tells_holds (fun _ h => by cases h) (by kernel_rfl) (fun _ h => by cases h) roleTells_row_tie rfl ⟨rfl, rfl⟩ (by kernel_rfl) rfl
    (fun f fn hf hfn => by
      obtain rfl : f = 3 := Option.some.inj ((show Tryz.prog.funcNamed "entail/entaillaw13.RoleTells" = some 3 by kernel_rfl).symm.trans hf) |>.symm
      obtain rfl : fn = Tryz.f3 := (Option.some.inj (Tryz.func3.symm.trans hfn)).symm
      exact ⟨by kernel_rfl, fun j t ht => by
        rw [Tryz.params3] at ht
        have hm : t ∈ [9, 22, 4, 3, 5, 25] := by simpa using Array.mem_of_getElem? ht
        have hall : ([9, 22, 4, 3, 5, 25].all fun u => !Tryz.prog.wantsStandIn u) = true := by kernel_rfl
        exact (show Tryz.prog.wantsStandIn t = false by simpa using List.all_eq_true.1 hall t hm)⟩)
    (by kernel_rfl)
#print axioms roleTells_card
end Go.Proofs.YtpcioegnchiheaaGreatDoor
end
