/- The law RoleBack (entaillaw13) answers true at every input, without a panic, and its arguments read as they did; there are no conditions beyond those of the given card. -/
import Derived.Test.YtpcioegnchiheaaGreatDoorT06
import Derived.Test.YtpcioegnchiheaaGreatDoorT03
import Derived.Test.YtpcioegnchiheaaGreatDoorCards
import Derived.Test.YtpcioegnchiheaaGreatDoorTie
set_option linter.unusedSimpArgs false
set_option linter.unusedVariables false
set_option linter.constructorNameAsVariable false
set_option linter.unnecessarySimpa false
section
/- The law RoleBack (entaillaw13) answers true at every input, without a panic, and its arguments read as they did; there are no conditions beyond those of the given card. -/
namespace Go.Proofs.YtpcioegnchiheaaGreatDoor
open Go Go.Fw Go.ChangeShapes Go.WideShapes Go.ChangeAt Go.RowKit
theorem own : ownKnob Tryz.prog.godebug = none := by kernel_rfl
theorem laidOut : laidOutB Tryz.prog = true := by kernel_rfl
theorem draws_ok : DregOK Tryz.prog Ro.S.dr := drAB_ok (by kernel_rfl)
/-- A slice of integers, as what is read alone. -/
theorem ints_open {H : Type} {enc : TypeId × Value → H} {P : Program} {W : World} {t e : TypeId} {v : Value} {d : DataW H} {p : List MemPlace} {r : Reach} {b0 : Nat} (ht : P.underlying t = some (.slice e)) (he : P.underlying e = some (.int .i64)) (hc : P.cellsOf e = 1)
    (hok : Value.okWide P W r b0 t v) (h : DataW.Trod enc P W 0 (fun _ => true) true t v d p) {μ : Mp} {Hm : Mem} (hr : Rep P (bdR W.heap.size) W μ Hm W) (hw : Sys.Wf Hm) :
    ∃ av xs μ' Hm', Rep P (bdR W.heap.size) W μ' Hm' W ∧ μ.le μ' ∧ Sys.Wf Hm' ∧ VR μ' av v ∧ Sys.SlR 1 Ro.Ri Hm'.get av xs ∧ (∀ g, g < Hm.next → Hm'.get g = Hm.get g) := by
  obtain ⟨a0, len0, cap0, rfl⟩ := okWide_slice ht hok
  obtain ⟨n, hn⟩ := h
  rcases open_ints ht he hc hn with ⟨hcs, _⟩ | ⟨a, len, cap, zs, hcs, _, hl, hm, hz, _, hcell, _⟩
  · simp [Value.cells] at hcs
    obtain ⟨rfl, rfl, rfl⟩ := hcs
    exact ⟨.nsl, [], μ, Hm, hr, Mp.le_refl _, hw, by simp [VR], .inl ⟨rfl, .inl rfl⟩, fun _ _ => rfl⟩
  · simp [Value.cells] at hcs
    obtain ⟨rfl, rfl, rfl⟩ := hcs
    simp only [if_true] at hz
    by_cases h0 : len0 = 0
    · subst h0
      exact ⟨.esl, [], μ, Hm, hr, Mp.le_refl _, hw, by simp [VR], .inl ⟨rfl, .inr rfl⟩, fun _ _ => rfl⟩
    · have hc0 := hcell 0 (by omega)
      obtain ⟨bk, off, spot⟩ := a
      have hspot : spot = none := by
        have h1 : (⟨bk, off, spot⟩ : Addr).add 0 = ⟨bk, off, spot⟩ := by simp [Addr.add]
        rw [h1] at hc0
        unfold World.cell? at hc0
        split at hc0
        · cases spot with
          | none => rfl
          | some x => simp at hc0
        · cases hc0
      subst hspot
      obtain ⟨cs, tt, fr, hb⟩ : ∃ cs tt fr, W.heap[bk]? = some (.cells cs tt fr) := by
        have h1 : (⟨bk, off, none⟩ : Addr).add 0 = ⟨bk, off, none⟩ := by simp [Addr.add]
        rw [h1] at hc0
        unfold World.cell? at hc0
        split at hc0
        · rename_i c t f hb; exact ⟨c, t, f, hb⟩
        · cases hc0
      have hcs : ∀ i, i < zs.length → cs[off + i]? = some (.int .i64 (zs.getD i 0)) := fun i hi => by
        have := hcell i hi
        have e : (⟨bk, off, none⟩ : Addr).add i = ⟨bk, off + i, none⟩ := by
          simp only [Addr.add]
          split
          · rename_i e0; subst e0; rfl
          · rfl
        rw [e] at this
        simpa only [World.cell?, hb, Option.isSome_none, Bool.false_eq_true, if_false] using this
      have hsz : off + cap0 ≤ cs.size := by
        have := (Array.getElem?_eq_some_iff.1 (hcs (cap0 - 1) (by omega))).1
        omega
      have hlt : bk < W.heap.size := (Array.getElem?_eq_some_iff.1 hb).1
      refine ⟨.sl Hm.next 0 len0 none, zs.take len0, _, _, hr.pushRo (k := ⟨bk, off, off + cap0, 1⟩) (o := .mem (zs.map fun z => AV.i .i64 z) 1 tt false 0) rfl ⟨cs, fr, hb, hsz, by simp; omega, rfl, fun j x hx => ?_, fun e => by cases e⟩ hlt, hr.le _, hw.push _, ?_, ?_, fun g hg => ?_⟩
      · simp only [List.getElem?_map, Option.map_eq_some_iff] at hx
        obtain ⟨z, hz1, rfl⟩ := hx
        have hj : j < zs.length := (List.getElem?_eq_some_iff.1 hz1).1
        refine ⟨_, hcs j hj, ?_⟩
        simp only [VR, List.getD, hz1, Option.getD_some]
      · simp only [VR]
        refine ⟨.inl rfl, cap0, ?_, hl, ?_, fun c' e => by cases e⟩
        · rw [Mp.push_f]; rfl
        · rw [Mp.push_f]; simp only; omega
      · refine .inr ⟨Hm.next, 0, none, _, tt, false, 0, ?_, by rw [Mem.get_push, if_pos rfl], fun c e => (by cases e), ⟨by simp; omega, fun j x hx => ?_⟩⟩
        · rw [List.length_take, Nat.min_eq_left (by omega)]
        · have hj : j < len0 := by
            have := (List.getElem?_eq_some_iff.1 hx).1
            simp at this; omega
          rw [List.getElem?_take_of_lt hj] at hx
          show _ = _
          have h1 : (zs.map fun z => AV.i .i64 z)[j]? = some (.i .i64 x) := by rw [List.getElem?_map, hx]; rfl
          obtain ⟨h2, h3⟩ := List.getElem?_eq_some_iff.1 h1
          simp only [Nat.mul_one, Nat.zero_add]
          rw [List.drop_eq_getElem_cons h2, h3]; rfl
      · rw [Mem.get_push, if_neg (by omega)]
theorem vrs_tab : ∀ (l : List Int), VRs (mu0 Tryz.prog.globals.size) (l.map fun n => AV.i .u64 n) (l.map fun z => Value.int .u64 z)
  | [] => rfl
  | z :: l => ⟨_, _, rfl, rfl, vrs_tab l⟩
theorem pow_open {W : World} (h : laidMetH Tryz.prog Rows.roleBackRow.laid W) : ∃ cs t fr, W.heap[Ro.gPow]? = some (.cells cs t fr) ∧ VRs (mu0 Tryz.prog.globals.size) Ro.powL cs.toList := by
  rw [MakeChecks.laidMetH_plain _ _ _ (by kernel_rfl)] at h
  obtain ⟨ps, ⟨g1, t1, cs1, f1, p1, q1, a1, b1, c1, d1, ⟨g2, t2, cs2, f2, p2, q2, a2, b2, c2, d2, ⟨g, t, cs, f, p, q, hg, hty, hv, hd, _, _⟩, _⟩, _⟩, _, _⟩ := h
  obtain rfl := Option.some.inj ((show (Tryz.prog.globals[Ro.gPow]?).map (·.type) = some 139 by kernel_rfl).symm.trans ((Option.some.inj ((show Tryz.prog.globalNamed "internal/strconv.uint64pow10" = some Ro.gPow by kernel_rfl).symm.trans hg)) ▸ hty))
  have hl : Rows.laid_internal_strconv_uint64pow10 (H := Unit) = Lib.tabData .u64 Lib.pow10Tab := by kernel_rfl
  rw [hl] at hd
  have hcs := Lib.cells_of_tab (n := 20) Tryz.underlying139 Tryz.underlying120 (by kernel_rfl) (by kernel_rfl) hd
  have e : Tryz.prog.globalNamed "internal/strconv.uint64pow10" = some Ro.gPow := by kernel_rfl
  unfold World.var? at hv
  rw [e, Option.bind_some] at hv
  split at hv
  · rename_i c t fr hb
    simp only [Option.some.injEq] at hv
    subst hv
    refine ⟨c, t, fr, hb, ?_⟩
    rw [hcs]
    exact vrs_tab Lib.pow10Tab
  · cases hv
set_option maxRecDepth 100000 in
theorem back_walk {H : Type} {enc : TypeId × Value → H} {W : World} {v : Value} {d : DataW H} {p : List MemPlace} {r : Reach} {b0 : Nat} (hok : Value.okWide Tryz.prog W r b0 22 v) (hA : DataW.Trod enc Tryz.prog W 0 (fun _ => true) true 22 v d p) (hL : laidMetH Tryz.prog Rows.roleBackRow.laid W) (a : Int) :
    Calls Tryz.prog 4 #[v, .int .i64 a] W fun e W' => e = .returned (.bool true) ∧ Below W.heap.size W W' := by
  have hr0 := repR Tryz.prog W Tryz.prog.globals.size
  obtain ⟨cs, t, fr, hb, hvs⟩ := pow_open hL
  have glt : Ro.gPow < Tryz.prog.globals.size := of_decide_eq_true (by kernel_rfl)
  have hr1 := hr0.putRo (g := Ro.gPow) (o := .tab Ro.powL) (get_mem0 _ _) glt rfl ⟨cs, t, fr, hb, hvs⟩ (Array.getElem?_eq_some_iff.1 hb).1
  have hw1 : Sys.Wf ((mem0 Tryz.prog.globals.size).put Ro.gPow (.tab Ro.powL)) := (wf_mem0 _).put glt _
  obtain ⟨av, xs, μ, Hm, hr, hle, hw, hav, hs, hk⟩ := ints_open Tryz.underlying22 Tryz.underlying2 (by kernel_rfl) hok hA hr1 hw1
  have hg : Hm.get Ro.gPow = .tab Ro.powL := by rw [hk _ glt, Mem.get_put, if_pos rfl]
  refine (close1 (S := Ro.S) (f := 4) (args := [av, .i .i64 a]) (us := #[v, .int .i64 a]) (K := fun v _ => v = .b true) draws_ok (fun _ _ => Ro.X_ok) Ro.F_ok hr (gl_le (gl0 _) hle) rfl (Ro.Back_run hw hs hg fun _ => rfl) ?_).mono ?_
  · exact ⟨v, [.int .i64 a], rfl, hav, _, [], rfl, rfl, rfl⟩
  · rintro e W' ⟨c, μ', v, H', rfl, hv, rfl, hb⟩
    simp only [VR] at hv
    subst hv
    exact ⟨rfl, hb⟩
abbrev laid0 := Rows.roleBackRow.laid
set_option maxRecDepth 100000 in
theorem back_lifted (os : Os) (started : os.Started) (H : Type) (enc : TypeId × Value → H) :
    ReturnsInHanded {} Tryz.checked os 4 .any (fun w args => (Rows.roleBackSpec.pre enc Tryz.prog Tryz.f4 [] false w args ∧ laidMetH Tryz.prog laid0 w) ∧ sizedMet enc Tryz.prog Tryz.f4 (OpenSpec.ofChange Rows.roleBackSpec) false w args)
      (Rows.roleBackSpec.post enc Tryz.prog Tryz.f4 false true false false) := by
  refine returnsInHanded_of_change_and (C := Tryz.checked) (X := fun w _ => laidMetH Tryz.prog laid0 w) (fun _ _ _ hh h => h.of_heap hh) own started (by kernel_rfl) Tryz.func4
    (ChangeSpec.witness_shaped (enc := enc) (C := Tryz.checked) (os := os) (X := fun w _ => laidMetH Tryz.prog laid0 w) false (World.laidAll Tryz.prog os laid0) #[.slice none 0 0, .int .i64 0] 8 (World.laidAll_os _ _ _)
      (World.shaped_of_ZipB (by kernel_rfl) (by kernel_rfl)) (by kernel_rfl) (by kernel_rfl) (by kernel_rfl)
      (by rw [MakeChecks.laidMetH_plain _ _ _ (by kernel_rfl)]; exact laidMet_laidAll _ (by kernel_rfl) (by kernel_rfl))) ?_
  intro W base args ds gs before hval0 hW _ _ hL _
  have hval : ∀ (j : Nat) t v, Tryz.f4.params[j]? = some t → args[j]? = some v → Value.okWide Tryz.prog W .any base t v := hval0
  have hW' := hW
  obtain ⟨p, q, hA0, hV, rfl, _, _⟩ := hW
  have hA : DataW.TrodAll enc Tryz.prog W 0 (fun _ => true) true Tryz.f4.params.toList args.toList ds p := hA0
  rw [Tryz.params4] at hA hval
  obtain ⟨v0, v1, d0, d1, p0, p1, rfl, rfl, rfl, h0, h1⟩ := trodAll_two hA
  obtain ⟨x, rfl, rfl, rfl, wx⟩ := open_int Tryz.underlying3 (hval 1 3 v1 rfl rfl) h1
  refine (back_walk (hval 0 22 v0 rfl rfl) h0 hL x).mono fun e W' ⟨he, hw⟩ => ?_
  subst he
  exact ⟨_, rfl, post_true laidOut (f := Tryz.f4) (tb := 4) (by kernel_rfl) rfl Tryz.underlying4 rfl (fun d hd => by
    rw [Tryz.params4] at hd
    match d, hd with
    | [d, e], _ => rfl) hW' hw⟩
theorem back_holds : Rows.RoleBackSaid :=
  OpenClaim.holds_of_wide 4 Tryz.f4 rfl rfl rfl rfl rfl rfl rfl ⟨rfl, rfl, rfl, rfl, rfl⟩ rfl rfl rfl rfl rfl (by kernel_rfl) Tryz.func4 (by kernel_rfl)
    (of_decide_eq_true (by kernel_rfl)) (by unfold Func.isWrapper; first | (rw [if_pos (by decide +kernel)]; kernel_rfl) | (rw [if_neg (by decide +kernel)]; exact ⟨rfl, rfl⟩))
    (fun os started H enc _ => back_lifted os started H enc)
theorem roleBack_card : Rows.RoleBackCardSaid :=
  Claim7.holds_tied_plain_at .later [] [.data, .data, .data, .data, .sentinel, .sentinel, .pinned] true (true, "668fd0b40541ae816ba779a581f65c0f722e00e6df04be3f9073d1e247a7940e") true back_holds (fun _ h => by cases h) (by kernel_rfl) (fun _ h => by cases h) roleBack_row_tie rfl ⟨rfl, rfl⟩ (by kernel_rfl) rfl
    (fun f fn hf hfn => by
      obtain rfl : f = 4 := Option.some.inj ((show Tryz.prog.funcNamed "entail/entaillaw13.RoleBack" = some 4 by kernel_rfl).symm.trans hf) |>.symm
      obtain rfl : fn = Tryz.f4 := (Option.some.inj (Tryz.func4.symm.trans hfn)).symm
      exact ⟨by kernel_rfl, fun j t ht => by
        rw [Tryz.params4] at ht
        have hm : t ∈ [22, 3] := by simpa using Array.mem_of_getElem? ht
        have hall : ([22, 3].all fun u => !Tryz.prog.wantsStandIn u) = true := by kernel_rfl
        exact (show Tryz.prog.wantsStandIn t = false by simpa using List.all_eq_true.1 hall t hm)⟩)
    (by kernel_rfl)
#print axioms roleBack_card
end Go.Proofs.YtpcioegnchiheaaGreatDoor
end
