/- Lemmas for the law's proof, part 2. -/
import Derived.Test.YtpcioegnchiheaaGreatDoorT01
import Derived.OrdersIn
import Derived.Lib.Bytealg
import Derived.Lib.Join
import Derived.Attr
set_option linter.unusedSimpArgs false
set_option linter.unusedVariables false
set_option linter.constructorNameAsVariable false
set_option linter.unnecessarySimpa false
section
/- The framework, part R: code and functions are as the machine's; loops over functions too. -/
namespace Go.Fw
open Go.RowKit

def Ex.out : Ex → Exit
  | .nm => .normal
  | .ex id => .exit id
  | .rt => .ret
section
variable {P : Program} {μ : Mp} {B : Bd} {w0 w : World} {H : Mem} {a : Act} {env : Tr} {N : Nat}
/-- What is to hold behind code. -/
def Post (P : Program) (B : Bd) (w0 : World) (N : Nat) (rd : Bool) (μ : Mp) (Q : Exit → Act → World → Prop) (e : Ex) (env' : Tr) (H' : Mem) : Prop :=
  ∀ a' w' μ', μ.le μ' → Rep P B w0 μ' H' w' → ER μ' N env' a'.tmps → DR rd μ' H' a' → Q e.out a' w'
/-- Regions that draw their order. -/
def DregOK (P : Program) (dr : DregF) : Prop := ∀ (cf : CallF), (∀ B w0, CallOK P B w0 cf) → ∀ (B : Bd) (w0 : World) (N : Nat) (rd : Bool) (r : Option Nat) (n : Nat) (id : Nat) (ops : Array Oper) (al : List AOper) (a : Act) (env : Tr) (H : Mem) (w : World) (μ : Mp) (env' : Tr) (H' : Mem) (Q : Exit → Act → World → Prop),
  mapO (compOper P N ops) ops.toList = some al → Rep P B w0 μ H w → Gl P μ → ER μ N env a.tmps → DR rd μ H a → dr cf al (beforeL ops.toList []) env H = some (env', H') → Post P B w0 N rd μ Q .nm env' H' → (Code.region id ops true).wpIn (Fr r) n P Q a w
theorem mark_le {H2 : Mem} {l : List Nat} (hr : Rep P B w0 μ H2 w) : Rep P B w0 μ (H2.mark l) w := hr.mark l
theorem endLoop_sound (hr : Rep P B w0 μ H w) {l : Nat} {st : LoopState} {pend : Option Ex} {tmps : Tr} {ps : List Pth} {asg body : AC} (e : H.get l = .loop st pend tmps ps asg body) (hst : st ≠ .busy) :
    ∃ j w', (Instr.endLoop (μ.f l).blk).run P w = .ok j w' ∧ pendR pend j ∧ Rep P B w0 μ (H.put l .dead) w' := by
  obtain ⟨N, r, h1, h2, h3, h4, h5, h6, h7, h8, h9⟩ := hr.at_ e (by simp)
  have hgo : (Instr.getLoop (μ.f l).blk).run P w = .ok r w := by simp [Instr.getLoop, getObj, Sem.run, h1]
  have hso : ∀ o, (setObj (μ.f l).blk o).run P w = .ok () { w with heap := w.heap.setIfInBounds (μ.f l).blk o } := fun o => by simp [setObj, Sem.run, h1]
  have hnb : ¬ r.state = .busy := by rw [h2]; exact hst
  refine ⟨r.pending, { w with heap := w.heap.setIfInBounds (μ.f l).blk (.loop { r with state := .exhausted }) }, ?_, h3, hr.drop (by rw [e]; rfl) ⟨rfl, rfl, rfl, by simp, fun k hk => ?_⟩ (fun k hk => ?_)⟩
  · simp [Instr.endLoop, hgo, hnb, hso]
  · simp only; rw [Array.getElem?_setIfInBounds_ne (stay_ne h9 hk)]
  · simp only; rw [Array.getElem?_setIfInBounds_ne (Ne.symm hk)]
theorem setLoop (hr : Rep P B w0 μ H w) {l : Nat} {st st' : LoopState} {pend pend' : Option Ex} {tmps : Tr} {ps : List Pth} {asg body : AC} (e : H.get l = .loop st pend tmps ps asg body) {r : Loop} (hl : w.heap[(μ.f l).blk]? = some (.loop r)) {c : Option Code} (hc : pendR pend' c) :
    (setObj (μ.f l).blk (.loop { r with state := st', pending := c })).run P w = .ok () { w with heap := w.heap.setIfInBounds (μ.f l).blk (.loop { r with state := st', pending := c }) } ∧
    Rep P B w0 μ (H.put l (.loop st' pend' tmps ps asg body)) { w with heap := w.heap.setIfInBounds (μ.f l).blk (.loop { r with state := st', pending := c }) } := by
  have ho := hr.at_ e (by simp)
  obtain ⟨N, r2, h1, h2, h3, h4, h5, h6, h7, h8, h9⟩ := ho
  rw [hl] at h1; injection h1 with h1; injection h1 with h1; subst h1
  have hlt : (μ.f l).blk < w.heap.size := (Array.getElem?_eq_some_iff.1 hl).1
  refine ⟨by simp [setObj, Sem.run, hl], hr.put e rfl ⟨rfl, rfl, rfl, by simp, fun k hk => ?_⟩ (fun k hk => ?_) rfl ⟨N, { r with state := st', pending := c }, by simp [hlt], rfl, hc, h4, h5, h6, h7, h8, h9⟩⟩
  · simp only; rw [Array.getElem?_setIfInBounds_ne (stay_ne h9 hk)]
  · simp only; rw [Array.getElem?_setIfInBounds_ne (Ne.symm hk)]
theorem code_sound {dr : DregF} (hdr : DregOK P dr) {cf : CallF} (hcf : ∀ B w0, CallOK P B w0 cf) (fuel : Nat) (N : Nat) (rd : Bool) (r : Option Nat) (hrd : rd = false → r = none) (n : Nat) : ∀ (c : Code) (a : Act) (env : Tr) (H : Mem) (w : World) (μ : Mp) (e : Ex) (env' : Tr) (H' : Mem) (Q : Exit → Act → World → Prop),
    evCode dr rd cf fuel (compC P N c) env H = some (e, env', H') → Rep P B w0 μ H w → Gl P μ → ER μ N env a.tmps → DR rd μ H a → Post P B w0 N rd μ Q e env' H' → c.wpIn (Fr r) n P Q a w := by
  intro c
  induction c with
  | skip =>
    intro a env H w μ e env' H' Q hv hr hg he hd hQ
    simp only [compC, evCode, Option.some.injEq, Prod.mk.injEq] at hv
    obtain ⟨rfl, rfl, rfl⟩ := hv
    exact wpIn_skip (hQ a w μ (Mp.le_refl _) hr he hd)
  | label l =>
    intro a env H w μ e env' H' Q hv hr hg he hd hQ
    simp only [compC, evCode, Option.some.injEq, Prod.mk.injEq] at hv
    obtain ⟨rfl, rfl, rfl⟩ := hv
    exact wpIn_label (hQ a w μ (Mp.le_refl _) hr he hd)
  | exit id =>
    intro a env H w μ e env' H' Q hv hr hg he hd hQ
    simp only [compC, evCode, Option.some.injEq, Prod.mk.injEq] at hv
    obtain ⟨rfl, rfl, rfl⟩ := hv
    exact wpIn_exit (hQ a w μ (Mp.le_refl _) hr he hd)
  | ret =>
    intro a env H w μ e env' H' Q hv hr hg he hd hQ
    simp only [compC, evCode, Option.some.injEq, Prod.mk.injEq] at hv
    obtain ⟨rfl, rfl, rfl⟩ := hv
    exact wpIn_ret (hQ a w μ (Mp.le_refl _) hr he hd)
  | seq x y ihx ihy =>
    intro a env H w μ e env' H' Q hv hr hg he hd hQ
    simp only [compC, evCode] at hv
    split at hv
    · rename_i env1 H1 h1
      refine wpIn_seq (ihx a env H w μ .nm env1 H1 _ h1 hr hg he hd fun a1 w1 μ1 hm1 hr1 he1 hd1 => ?_)
      exact ihy a1 env1 H1 w1 μ1 e env' H' Q hv hr1 (hg.mono hm1) he1 hd1 fun a2 w2 μ2 hm2 hr2 he2 hd2 => hQ a2 w2 μ2 (Mp.le_trans hm1 hm2) hr2 he2 hd2
    · rename_i r hnm
      refine wpIn_seq (ihx a env H w μ e env' H' _ hv hr hg he hd fun a1 w1 μ1 hm1 hr1 he1 hd1 => ?_)
      have := hQ a1 w1 μ1 hm1 hr1 he1 hd1
      cases e with
      | nm => exact absurd hv (hnm _ _)
      | ex id => exact this
      | rt => exact this
  | cond x y z ihy ihz =>
    intro a env H w μ e env' H' Q hv hr hg he hd hQ
    simp only [compC] at hv
    split at hv
    case h_2 => simp [evCode] at hv
    rename_i x' hx
    simp only [evCode] at hv
    have hxe := opd_sound (a := a) hg he hx
    split at hv
    · rename_i hb
      rw [hb] at hxe; simp only [VR] at hxe
      exact wpIn_cond hxe (ihy a env H w μ e env' H' Q hv hr hg he hd hQ)
    · rename_i hb
      rw [hb] at hxe; simp only [VR] at hxe
      exact wpIn_cond hxe (ihz a env H w μ e env' H' Q hv hr hg he hd hQ)
    · simp at hv
  | block id x ih =>
    intro a env H w μ e env' H' Q hv hr hg he hd hQ
    simp only [compC, evCode] at hv
    split at hv
    · rename_i j env1 H1 h1
      refine wpIn_block (ih a env H w μ (.ex j) env1 H1 _ h1 hr hg he hd fun a1 w1 μ1 hm1 hr1 he1 hd1 => ?_)
      simp only [Ex.out, Exit.inBlock]
      rw [beqN] at hv
      by_cases hj : j = id
      · simp only [hj, decide_true, cond_true, Option.some.injEq, Prod.mk.injEq] at hv
        obtain ⟨rfl, rfl, rfl⟩ := hv
        rw [if_pos hj]; exact hQ a1 w1 μ1 hm1 hr1 he1 hd1
      · simp only [hj, decide_false, cond_false, Option.some.injEq, Prod.mk.injEq] at hv
        obtain ⟨rfl, rfl, rfl⟩ := hv
        rw [if_neg hj]; exact hQ a1 w1 μ1 hm1 hr1 he1 hd1
    · rename_i r hne
      refine wpIn_block (ih a env H w μ e env' H' _ hv hr hg he hd fun a1 w1 μ1 hm1 hr1 he1 hd1 => ?_)
      have := hQ a1 w1 μ1 hm1 hr1 he1 hd1
      cases e with
      | nm => exact this
      | ex id => exact absurd hv (hne _ _ _)
      | rt => exact this
  | loop x ih =>
    intro a env H w μ e env' H' Q hv hr hg he hd hQ
    simp only [compC, evCode] at hv
    have key : ∀ (m : Nat) (a : Act) (env : Tr) (H : Mem) (w : World) (μ : Mp), loopN (evCode dr rd cf fuel (compC P N x)) m env H = some (e, env', H') → Rep P B w0 μ H w → Gl P μ → ER μ N env a.tmps → DR rd μ H a → Post P B w0 N rd μ Q e env' H' →
        ∀ (b : Frame) (k : List Item) (cs : List Frame), b.roundOf = (Fr r).round → (Fr r).fn b.fn → (Fr r).room (cs.length + 1 + n) → ∃ e a' w', Q e a' w' ∧ ArrivesIn (Machine.fenced P (Fr r)) P (lone (b.atR a (.code x :: .inLoop x :: k)) cs w) b k cs e a' w' := by
      intro m
      induction m with
      | zero => intro a env H w μ h; simp [loopN] at h
      | succ m ihn =>
        intro a env H w μ h hr hg he hd hQ b k cs hro hb hroom
        simp only [loopN] at h
        split at h
        · rename_i env1 H1 h1
          have hx := ih a env H w μ .nm env1 H1 (fun ex a1 w1 => ex = .normal ∧ ∃ μ1, μ.le μ1 ∧ Rep P B w0 μ1 H1 w1 ∧ ER μ1 N env1 a1.tmps ∧ DR rd μ1 H1 a1) h1 hr hg he hd
            (fun a1 w1 μ1 hm1 hr1 he1 hd1 => ⟨rfl, μ1, hm1, hr1, he1, hd1⟩)
          obtain ⟨ex, a1, w1, ⟨rfl, μ1, hm1, hr1, he1, hd1⟩, harr⟩ := hx b (.inLoop x :: k) cs hro hb hroom
          obtain ⟨e2, a2, w2, hq2, harr2⟩ := ihn a1 env1 H1 w1 μ1 h hr1 (hg.mono hm1) he1 hd1 (fun a2 w2 μ2 hm2 hr2 he2 hd2 => hQ a2 w2 μ2 (Mp.le_trans hm1 hm2) hr2 he2 hd2) b k cs hro hb hroom
          exact ⟨e2, a2, w2, hq2, .of_steps (StepsIn.trans harr (.one (fenced_calm hb hroom rfl) stepR_inLoop)) harr2⟩
        · rename_i rr hnm
          have hx := ih a env H w μ e env' H' (fun ex a1 w1 => ex = e.out ∧ Q ex a1 w1) h hr hg he hd (fun a1 w1 μ1 hm1 hr1 he1 hd1 => ⟨rfl, hQ a1 w1 μ1 hm1 hr1 he1 hd1⟩)
          obtain ⟨ex, a1, w1, ⟨rfl, hq⟩, harr⟩ := hx b (.inLoop x :: k) cs hro hb hroom
          cases e with
          | nm => exact absurd h (hnm _ _)
          | ex id => exact ⟨_, a1, w1, hq, .pass (x := .inLoop x) rfl (fun _ _ => .inl (by simp [Ex.out])) harr⟩
          | rt => exact ⟨_, a1, w1, hq, .pass (x := .inLoop x) rfl (fun _ _ => .inl (by simp [Ex.out])) harr⟩
    intro b k cs hro hb hroom
    obtain ⟨e2, a', w', hq, harr⟩ := key fuel a env H w μ hv hr hg he hd hQ b k cs hro hb hroom
    exact ⟨e2, a', w', hq, .of_steps (.one (fenced_calm hb hroom rfl) stepR_loop) harr⟩
  | region id ops d =>
    intro a env H w μ e env' H' Q hv hr hg he hd hQ
    simp only [compC] at hv
    split at hv
    case h_2 => simp [evCode] at hv
    rename_i al hal
    cases d with
    | false =>
      simp only [Bool.false_eq_true, if_false, evCode] at hv
      split at hv <;> simp at hv
      rename_i hev
      obtain ⟨rfl, rfl, rfl⟩ := hv
      exact wpIn_region_list (ops_sound (hcf B w0) _ _ a env H w μ _ _ hal hr hg he hd hev hQ)
    | true =>
      simp only [if_true, evCode] at hv
      split at hv <;> simp at hv
      rename_i hev
      obtain ⟨rfl, rfl, rfl⟩ := hv
      exact hdr cf hcf B w0 N rd r n id ops al a env H w μ _ _ Q hal hr hg he hd hev hQ
  | rangeFunc g ps asg body _ _ =>
    intro a env H w μ e env' H' Q hv hr hg he hd hQ
    simp only [compC] at hv
    split at hv
    case h_2 => simp [evCode] at hv
    rename_i g' hg'
    split at hv
    case isFalse => simp [evCode] at hv
    rename_i hps
    simp only [evCode] at hv
    cases rd with
    | true => simp at hv
    | false =>
    obtain rfl := hrd rfl
    simp only [cond_false, frcM_eq] at hv
    split at hv <;> try (simp at hv; done)
    rename_i f first cap hfn
    rw [frcVs_eq] at hv
    split at hv <;> try (simp at hv; done)
    rename_i vv H2 hcall
    split at hv <;> try (simp at hv; done)
    rename_i st pend t2 ps2 a2 b2 hlo
    have hgv := opd_sound (a := a) hg he hg'
    rw [hfn] at hgv; simp only [VR] at hgv
    obtain ⟨av, bv, hq, hav, hbv⟩ := hgv
    -- the two new objects
    let wd := w.alloc (.deferred (some []))
    let μd := μ.push H.next ⟨w.heap.size, 0, 0, 0⟩
    have hrd1 : Rep P B w0 μd (H.push .defs) wd := by
      refine hr.push ((Stay.refl B w).alloc hr.base _) (fun id hd => Below.heap_alloc _ _ _ (hr.lt hd)) (fun id ho e => ?_) ⟨?_, fun hk => Nat.lt_irrefl _ (hr.base _ hk)⟩ rfl
      · have := hr.lt (owns_live ho); simp only at e; omega
      · show (w.heap.push _)[w.heap.size]? = _
        rw [Array.getElem?_push, if_pos rfl]
    have hmd : μ.le μd := hr.le _
    let H0 := (H.push .defs).mark (H.next :: H.marks)
    have hr0 : Rep P B w0 μd H0 wd := hrd1.mark _
    have hH0 : H0.next = H.next + 1 := rfl
    have hps' : ∀ d ∈ ps.toList, d < N := fun d hd => by
      have := List.all_eq_true.1 hps d hd
      rw [bltN] at this; simpa using this
    refine wpIn_rangeFunc fun fn _ => ?_
    let rec_ : Loop := { state := .ready, pending := none, fn := fn, tmps := a.tmps, params := ps, assign := asg, body := body, defers := w.heap.size }
    let wl := wd.alloc (.loop rec_)
    let μl := μd.push H0.next ⟨wd.heap.size, 0, 0, 0⟩
    have hml : μd.le μl := hr0.le _
    have hrl : Rep P B w0 μl (H0.push (.loop .ready none env (ps.toList.map pth) (compC P N asg) (compC P N body))) wl := by
      refine hr0.push ((Stay.refl B wd).alloc hr0.base _) (fun id hd => Below.heap_alloc _ _ _ (hr0.lt hd)) (fun id ho e => ?_) 
        ⟨N, rec_, ?_, rfl, rfl, (he.mono hmd).mono hml, hps', rfl, rfl, rfl, fun hk => Nat.lt_irrefl _ (hr0.base _ hk)⟩ rfl
      · have := hr0.lt (owns_live ho); simp only at e; omega
      · show (wd.heap.push _)[wd.heap.size]? = _
        rw [Array.getElem?_push, if_pos rfl]
    have hyl : VR μl (.yld H0.next) (.func (.yield wd.heap.size) #[] #[]) := ⟨.inl rfl, by rw [Mp.push_f]⟩
    have hmml : μ.le μl := Mp.le_trans hmd hml
    have hargs : VRs μl (first ++ [.yld H0.next] ++ cap) (av ++ #[Value.func (.yield wd.heap.size) #[] #[]] ++ bv).toList := by
      simp only [Array.toList_append]
      exact ((VRs.mono hmml hav).append (VRs.cons hyl VRs.nil)).append (VRs.mono hmml hbv)
    obtain ⟨hmk, henter, hcalls⟩ := hcf B w0 (.b f) _ _ vv H2 μl wl _ hcall hrl (hg.mono hmml) hargs
    refine ⟨wd.heap.size, [{ target := .collected w.heap.size, args := #[] }], wl, { target := .fn (.func f) bv, args := av ++ #[Value.func (.yield wd.heap.size) #[] #[]] }, wl, f, _, wl, ?_, ?_, fun _ _ => trivial, henter, Fr.deep, ?_⟩
    · rfl
    · show (Deferred.ofValue (a.eval g) _).run P wl = _
      have hm : (rangeCall g wd.heap.size).args.map a.eval = #[Value.func (.yield wd.heap.size) #[] #[]] := by simp [rangeCall, Act.eval]
      rw [hq, hm]; rfl
    · refine ⟨(hcalls (n - 1)).1, fun cs hroom => ?_⟩
      obtain ⟨e', w', fr, hR, rest⟩ := (hcalls (n - 1)).2 cs hroom
      obtain ⟨c, μ', rfl, hm', hr', hv'⟩ := hR
      refine ⟨.returned c, w', fr, ?_, rest⟩
      have hst : st ≠ .busy := fun e => by subst e; simp at hv
      obtain ⟨j, w4, hend, hpj, hr4⟩ := endLoop_sound hr' hlo hst
      have hblk : (μ'.f H0.next).blk = wd.heap.size := by
        rw [(hm' _ (.inl rfl)).2, Mp.push_f]
      rw [hblk] at hend
      have hmm : μ.le μ' := Mp.le_trans hmml hm'
      have hdr' : DR false μ' (H2.put H0.next .dead) { a with defers := [{ target := .collected w.heap.size, args := #[] }] ++ a.defers } := fun _ => by
        obtain ⟨d1, d2⟩ := hd rfl
        have hhas : μd.has H.next := .inl rfl
        have hb1 : (μ'.f H.next).blk = w.heap.size := by
          rw [(hm' _ (hml _ hhas).1).2, (hml _ hhas).2, Mp.push_f]
        have hmk2 : H2.marks = H.next :: H.marks := hmk
        simp only [Mem.marks_put, hmk2]
        refine ⟨?_, fun l hl => ?_⟩
        · simp only [List.map_cons, hb1, List.singleton_append, d1]
          congr 1
          exact List.map_congr_left fun l hl => by rw [(hmm l (d2 l hl)).2]
        · rcases List.mem_cons.1 hl with rfl | hl
          · exact (hm' _ (hml _ hhas).1).1
          · exact (hmm l (d2 l hl)).1
      have hQ' : ∀ e1, (e1, env, H2.put H0.next .dead) = (e, env', H') → Q e1.out { a with defers := [{ target := .collected w.heap.size, args := #[] }] ++ a.defers } w4 := fun e1 h => by
        simp only [Prod.mk.injEq] at h
        obtain ⟨rfl, rfl, rfl⟩ := h
        exact hQ _ w4 μ' hmm hr4 (he.mono hmm) hdr'
      refine ⟨j, w4, hend, ?_⟩
      cases pend with
      | none =>
        simp only [pendR] at hpj; subst hpj
        exact hQ' .nm (by cases st <;> first | (exact absurd rfl hst) | exact Option.some.inj hv)
      | some e1 =>
        cases e1 with
        | nm => simp [pendR] at hpj
        | ex id => simp only [pendR] at hpj; subst hpj; exact wpIn_exit (hQ' (.ex id) (by cases st <;> first | (exact absurd rfl hst) | exact Option.some.inj hv))
        | rt => simp only [pendR] at hpj; subst hpj; exact wpIn_ret (hQ' .rt (by cases st <;> first | (exact absurd rfl hst) | exact Option.some.inj hv))
  | _ => intro a env H w μ e env' H' Q hv; simp [compC, evCode] at hv
/-- One result, as the machine reads it. -/
def resSem (tmps : Array Value) (r : ResultVar) : Sem Value := match r with
  | .tmp t => pure (tmps.getD t undef)
  | .cell a t => do loadVar t (← asAddr (tmps.getD a undef))
theorem res1_sound (hr : Rep P B w0 μ H w) {tmps : Array Value} (he : ER μ N env tmps) {r : ResultVar} {rv : RV} (hc : compR P r = some rv) {v : AV} (hv : resA1 env H rv = some v) :
    ∃ c, (resSem tmps r).run P w = .ok c w ∧ VR μ v c := by
  cases r with
  | tmp t =>
    simp [compR] at hc; subst hc
    simp only [resA1, Option.some.injEq] at hv; subst hv
    exact ⟨_, rfl, he.2 t⟩
  | cell x t =>
    simp only [compR] at hc
    split at hc <;> simp at hc
    rename_i g n hg hn
    subst hc
    simp only [resA1] at hv
    split at hv <;> try (simp at hv; done)
    rename_i id off ho
    have := he.2 x
    rw [ho] at this; simp only [VR] at this
    obtain ⟨_, hq⟩ := this
    obtain ⟨c, h1, h2⟩ := load_sound hr hg hn hv
    refine ⟨c, ?_, h2⟩
    simp only [resSem, hq]
    simpa [Instr.loadAt, Instr.sureAddr, asAddr] using h1
theorem res_sound (hr : Rep P B w0 μ H w) {tmps : Array Value} (he : ER μ N env tmps) {fn : Func} {l : List RV} (hc : mapO (compR P) fn.results.toList = some l) {v : AV} (hv : resA env H l = some v) :
    ∃ c, (results fn tmps).run P w = .ok c w ∧ VR μ v c := by
  have key : ∀ (rs : List ResultVar) (l : List RV) (vs : List AV), mapO (compR P) rs = some l → mapO (resA1 env H) l = some vs →
      ∃ us, (rs.mapM (resSem tmps)).run P w = .ok us w ∧ VRs μ vs us := by
    intro rs
    induction rs with
    | nil => intro l vs h1 h2; simp [mapO] at h1; subst h1; simp [mapO] at h2; subst h2; exact ⟨[], by simp, rfl⟩
    | cons r rs ih =>
      intro l vs h1 h2
      simp only [mapO] at h1
      split at h1 <;> simp at h1
      rename_i rv l' hrv hl'
      subst h1
      simp only [mapO] at h2
      split at h2 <;> simp at h2
      rename_i v' vs' hv' hvs'
      subst h2
      obtain ⟨c, g1, g2⟩ := res1_sound hr he hrv hv'
      obtain ⟨us, g3, g4⟩ := ih l' vs' hl' hvs'
      refine ⟨c :: us, ?_, VRs.cons g2 g4⟩
      rw [List.mapM_cons, Sem.run_bind]
      have g1' := g1
      rw [g1']
      simp only [Result.andThen_ok, Sem.run_bind, g3, Sem.run_pure]
  unfold resA at hv
  split at hv
  · rename_i v' hvs
    simp at hv; subst hv
    obtain ⟨us, h1, h2⟩ := key _ _ _ hc hvs
    simp only [VRs] at h2
    obtain ⟨y, ys, rfl, hy, rfl⟩ := h2
    refine ⟨y, ?_, hy⟩
    rw [show results fn tmps = (do let vs ← fn.results.mapM (resSem tmps); pure (if h : vs.size = 1 then vs[0] else .tuple vs)) from rfl, Array.mapM_eq_mapM_toList]
    simp [h1]
  · rename_i vs hne hvs
    simp at hv; subst hv
    obtain ⟨us, h1, h2⟩ := key _ _ _ hc hvs
    have hl := VRs.length h2
    refine ⟨.tuple us.toArray, ?_, ⟨_, rfl, by simpa using h2⟩⟩
    rw [show results fn tmps = (do let vs ← fn.results.mapM (resSem tmps); pure (if h : vs.size = 1 then vs[0] else .tuple vs)) from rfl, Array.mapM_eq_mapM_toList]
    have hn : ¬ us.length = 1 := fun e => by
      match vs, hl, hne with
      | [x], _, hne => exact hne x rfl
      | [], hl, _ => rw [e] at hl; cases hl
      | _ :: _ :: _, hl, _ => rw [e] at hl; simp at hl
    simp [h1, hn]
  · simp at hv
/-- The marks, taken at a function's end. -/
theorem marks_leave {tmps : Array Value} {fn : Func} {R : Ending → World → Prop} {n : Nat} {l : List RV} (hc : mapO (compR P) fn.results.toList = some l) : ∀ (ms : List Nat) (H H2 : Mem) (w : World), endMarks ms H = some H2 → Rep P B w0 μ H w → (∀ m ∈ ms, μ.has m) → ER μ N env tmps → ∀ v, resA env H2 l = some v →
    (∀ c w', Rep P B w0 μ H2 w' → VR μ v c → R (.returned c) w') → LeavesInM (Fr none) n P fn tmps R (ms.map fun l => ({ target := .collected (μ.f l).blk, args := #[] } : Deferred)) .returning w
  | [], H, H2, w, hm, hr, hh, he, v, hv, hR => by
    simp [endMarks] at hm; subst hm
    obtain ⟨c, h1, h2⟩ := res_sound hr he hc hv
    exact ⟨c, h1, hR c w hr h2⟩
  | m :: ms, H, H2, w, hm, hr, hh, he, v, hv, hR => by
    simp only [endMarks] at hm
    split at hm <;> try (simp at hm; done)
    rename_i hd
    rw [frcM_eq] at hm
    obtain ⟨hb, hB⟩ := hr.at_ hd (by simp)
    refine ⟨by simp, .inl ⟨(μ.f m).blk, { w with heap := w.heap.setIfInBounds (μ.f m).blk (.deferred none) }, rfl, ?_, ?_⟩⟩
    · simp [Instr.takeDeferred, getObj, setObj, Sem.run, hb]
    · refine marks_leave hc ms (H.put m .dead) H2 _ hm (hr.drop (by rw [hd]; rfl) ⟨rfl, rfl, rfl, by simp, fun k hk => ?_⟩ (fun k hk => ?_)) (fun k hk => hh k (by simp [hk])) he v hv hR
      · simp only; rw [Array.getElem?_setIfInBounds_ne (stay_ne hB hk)]
      · simp only; rw [Array.getElem?_setIfInBounds_ne (Ne.symm hk)]
theorem argsIn_eq {β : Type} : ∀ (vs : List AV) (i : Nat) (env : Tr) (K : Tr → β), ∃ env', argsIn i vs env K = K env' ∧ ∀ t, env'.get (pth t) = if i ≤ t ∧ t < i + vs.length then (vs[t - i]?).getD undefA else env.get (pth t)
  | [], i, env, K => ⟨env, rfl, fun t => by simp; intro h1 h2; omega⟩
  | v :: vs, i, env, K => by
    simp only [argsIn, Tr.setK_eq]
    obtain ⟨env', h1, h2⟩ := argsIn_eq vs (i + 1) (env.set (pth i) v) K
    refine ⟨env', h1, fun t => ?_⟩
    rw [h2]
    by_cases h : t = i
    · subst h
      rw [if_neg (by omega), Tr.get_set_same, if_pos (by simp)]
      simp
    · rw [Tr.get_set_ne _ _ _ _ (fun e => h (pth_inj e))]
      by_cases hc : i + 1 ≤ t ∧ t < i + 1 + vs.length
      · rw [if_pos hc, if_pos (by simp; omega)]
        rw [show t - i = (t - (i + 1)) + 1 by omega]; rfl
      · rw [if_neg hc, if_neg (by simp; omega)]
theorem body_sound {dr : DregF} (hdr : DregOK P dr) {cf : CallF} (hcf : ∀ B w0, CallOK P B w0 cf) (fuel : Nat) {f : Nat} {af : AF} (hf : compF P f = some af) {args : List AV} {v : AV} {H' : Mem} {us : Array Value} (hv : evBody dr cf fuel af args H = some (v, H')) (hr : Rep P B w0 μ H w) (hg : Gl P μ) (ha : VRs μ args us.toList) :
    H'.marks = H.marks ∧ (callFunc f us).run P w = .ok (.enter f us) w ∧ ∀ n, CallsIn (Fr none) n P f us w (RetR P B w0 μ H' v) := by
  unfold compF at hf
  split at hf <;> try (simp at hf; done)
  rename_i fn hfn
  split at hf <;> try (simp at hf; done)
  rename_i c hb
  split at hf
  · simp at hf
  rename_i hname
  obtain ⟨l, hl, rfl⟩ := Option.map_eq_some_iff.1 hf
  have hn2 : ¬ fn.name = "runtime.NumGoroutine" := by simpa using hname
  unfold evBody at hv
  obtain ⟨env, hen, hget⟩ := argsIn_eq args 0 (trU fn.ntmps) (fun env => match evCode dr false cf fuel (compC P fn.ntmps c) env (H.mark []) with
    | some (e, env', H1) => match e with
      | .ex _ => none
      | _ => match endMarks H1.marks H1 with
        | some H2 => match resA env' H2 l with
          | some v => frcV true v fun v => frcM (H2.mark H.marks) fun H3 => some (v, H3)
          | none => none
        | none => none
    | none => none)
  have hv := hen.symm.trans hv
  split at hv <;> try (simp at hv; done)
  rename_i e env' H1 hev
  have hex : e = .nm ∨ e = .rt := by
    cases e with
    | nm => exact .inl rfl
    | rt => exact .inr rfl
    | ex id => simp at hv
  have hv2 : ∃ H2 v', endMarks H1.marks H1 = some H2 ∧ resA env' H2 l = some v' ∧ v' = v ∧ H2.mark H.marks = H' := by
    cases e with
    | ex id => simp at hv
    | nm =>
      simp only at hv
      split at hv <;> try (simp at hv; done)
      rename_i H2 h2
      split at hv <;> try (simp at hv; done)
      rename_i v' h3
      rw [frcV_eq, frcM_eq] at hv
      simp at hv
      exact ⟨H2, v', h2, h3, hv.1, hv.2⟩
    | rt =>
      simp only at hv
      split at hv <;> try (simp at hv; done)
      rename_i H2 h2
      split at hv <;> try (simp at hv; done)
      rename_i v' h3
      rw [frcV_eq, frcM_eq] at hv
      simp at hv
      exact ⟨H2, v', h2, h3, hv.1, hv.2⟩
  obtain ⟨H2, v', hem, hres, rfl, rfl⟩ := hv2
  refine ⟨rfl, by simp [callFunc, hfn, hn2, hb], fun n => callsIn_of_wp_marks hfn hb trivial ?_⟩
  have hlen := VRs.length ha
  simp only [Array.length_toList] at hlen
  have he : ER μ fn.ntmps env (us ++ Array.replicate (fn.ntmps - us.size) undef) := by
    refine ⟨by simp; omega, fun t => ?_⟩
    rw [hget, Array.getD_eq_getD_getElem?]
    by_cases ht : t < args.length
    · rw [if_pos (by omega), Nat.sub_zero, Array.getElem?_append_left (by omega)]
      obtain ⟨c, hc1, hc2⟩ := VRs.get ha (List.getElem?_eq_getElem ht)
      rw [Array.getElem?_toList] at hc1
      rw [List.getElem?_eq_getElem ht, hc1]; exact hc2
    · rw [if_neg (by omega), get_trU, Array.getElem?_append_right (by omega)]
      cases hx : (Array.replicate (fn.ntmps - us.size) undef)[t - us.size]? with
      | none => exact VR.undef
      | some x =>
        rw [Array.getElem?_replicate] at hx
        split at hx <;> simp at hx
        subst hx; exact VR.undef
  refine code_sound hdr hcf fuel fn.ntmps false none (fun _ => rfl) n c _ env (H.mark []) w μ e env' H1 _ hev (hr.mark []) hg he (fun _ => ⟨rfl, by simp⟩) fun a' w' μ' hm hr' he' hd' => ?_
  obtain ⟨hd1, hd2⟩ := hd' rfl
  have := marks_leave (n := n) (R := RetR P B w0 μ (H2.mark H.marks) v') hl H1.marks H1 H2 w' hem hr' hd2 he' v' hres (fun c w2 hr2 hvr => ⟨c, μ', rfl, hm, hr2.mark _, hvr⟩)
  rw [← hd1] at this
  rcases hex with rfl | rfl
  · exact this
  · exact this
theorem setAll_eq {β : Type} : ∀ (ps : List Nat) (vs : List AV) (us : List Value) (env : Tr) (tmps : Array Value) (K : Tr → β), (∀ d ∈ ps, d < N) → vs.length = ps.length → VRs μ vs us → ER μ N env tmps →
    ∃ env', setAll (ps.map pth) vs env K = K env' ∧ ER μ N env' ((ps.zip us).foldl (fun tmps (t, a) => tmps.setIfInBounds t a) tmps)
  | [], vs, us, env, tmps, K, hp, hl, hv, he => by
    have : vs = [] := List.eq_nil_of_length_eq_zero (by simpa using hl)
    subst this; exact ⟨env, rfl, he⟩
  | p :: ps, [], us, env, tmps, K, hp, hl, hv, he => by simp at hl
  | p :: ps, v :: vs, us, env, tmps, K, hp, hl, hv, he => by
    simp only [VRs] at hv
    obtain ⟨u, us, rfl, hu, hus⟩ := hv
    obtain ⟨env', h1, h2⟩ := setAll_eq ps vs us (env.set (pth p) v) (tmps.setIfInBounds p u) K (fun d hd => hp d (by simp [hd])) (by simpa using hl) hus (he.set (hp p (by simp)) hu)
    exact ⟨env', by simp only [List.map_cons, setAll, Tr.setK_eq]; exact h1, h2⟩
end
end Go.Fw
end
section
/- The framework, part S: rounds of loops over functions; every call is as the machine's. -/
namespace Go.Fw
open Go.RowKit

section
variable {P : Program} {μ : Mp} {B : Bd} {w0 w : World} {H : Mem} {a : Act} {env : Tr} {N : Nat}
theorem round_sound {dr : DregF} (hdr : DregOK P dr) {cf : CallF} (hcf : ∀ B w0, CallOK P B w0 cf) (fuel : Nat) {l : Nat} {args : List AV} {v : AV} {H' : Mem} {us : Array Value} (hv : evRound dr cf fuel l args H = some (v, H')) (hr : Rep P B w0 μ H w) (hg : Gl P μ) (ha : VRs μ args us.toList) :
    H'.marks = H.marks ∧ UponR P B w0 μ H' v ((Instr.yield (μ.f l).blk us).run P w) := by
  unfold evRound at hv
  split at hv <;> try (simp at hv; done)
  rename_i st pend tmps ps asg body hl
  split at hv <;> try (simp at hv; done)
  rename_i hlen
  rw [beqN, decide_eq_true_eq] at hlen
  obtain ⟨N, rc, h1, h2, h3, h4, h5, h6, h7, h8, h9⟩ := hr.at_ hl (by simp)
  subst h6
  have hul := VRs.length ha
  simp only [Array.length_toList] at hul
  have hps : args.length = rc.params.toList.length := by simpa using hlen
  obtain ⟨env, hse, he⟩ := setAll_eq (N := N) rc.params.toList args us.toList tmps rc.tmps (fun env => match evCode dr true cf fuel asg env H with
      | some (.nm, env1, H1) => match H1.get l with
        | .loop .ready p t2 ps2 a2 b2 => frcM (H1.put l (.loop .busy p t2 ps2 a2 b2)) fun H2 => match evCode dr true cf fuel body env1 H2 with
          | some (e, _, H3) => match H3.get l with
            | .loop _ _ t3 ps3 a3 b3 => match e with
              | .nm => frcM ((H3.put l (.loop .ready none t3 ps3 a3 b3)).mark H.marks) fun H4 => some (AV.b true, H4)
              | e => frcM ((H3.put l (.loop .done (some e) t3 ps3 a3 b3)).mark H.marks) fun H4 => some (AV.b false, H4)
            | _ => none
          | none => none
        | _ => none
      | _ => none) h5 hps ha h4
  have hv := hse.symm.trans hv
  split at hv <;> try (simp at hv; done)
  rename_i env1 H1 hasg
  split at hv <;> try (simp at hv; done)
  rename_i p t2 ps2 a2 b2 hl1
  rw [frcM_eq] at hv
  split at hv <;> try (simp at hv; done)
  rename_i e env3 H3 hbody
  split at hv <;> try (simp at hv; done)
  rename_i st3 p3 t3 ps3 a3 b3 hl3
  have hfin : ∃ st4 pe, H' = (H3.put l (.loop st4 pe t3 ps3 a3 b3)).mark H.marks ∧ ((e = .nm ∧ v = .b true ∧ st4 = .ready ∧ pe = none) ∨ (e ≠ .nm ∧ v = .b false ∧ st4 = .done ∧ pe = some e)) := by
    split at hv
    · rw [frcM_eq] at hv; simp at hv; exact ⟨_, _, hv.2.symm, .inl ⟨rfl, hv.1.symm, rfl, rfl⟩⟩
    · rename_i hne
      rw [frcM_eq] at hv; simp at hv; exact ⟨_, _, hv.2.symm, .inr ⟨fun e2 => hne e2, hv.1.symm, rfl, rfl⟩⟩
  obtain ⟨st4, pe, hH', hcase⟩ := hfin
  refine ⟨by rw [hH']; rfl, ?_⟩
  intro r n o act K Q hK
  have hsz : us.size = rc.params.size := by rw [← Array.length_toList (xs := rc.params)]; omega
  have hgo : (Instr.getLoop (μ.f l).blk).run P w = .ok rc w := by simp [Instr.getLoop, getObj, Sem.run, h1]
  have hfold : (rc.params.zip us).foldl (fun tmps (t, a) => tmps.setIfInBounds t a) rc.tmps = (rc.params.toList.zip us.toList).foldl (fun tmps (t, a) => tmps.setIfInBounds t a) rc.tmps := by
    rw [← Array.foldl_toList, Array.toList_zip]
  have hy : (Instr.yield (μ.f l).blk us).run P w = .ok (.round (μ.f l).blk rc.fn ((rc.params.zip us).foldl (fun tmps (t, a) => tmps.setIfInBounds t a) rc.tmps) rc.assign rc.body) w := by
    simp only [Instr.yield, Sem.run_bind, hgo, Result.andThen_ok]
    rw [if_neg (by simpa using hsz)]
    rfl
  rw [hy, Oper.uponIn_round, hfold]
  refine ⟨Fr.deep, roundIn_of_wpIn trivial ?_⟩
  subst h7; subst h8
  refine code_sound hdr hcf fuel N true (some (μ.f l).blk) (fun e => by cases e) (n - 1) rc.assign _ env H w μ .nm env1 H1 _ hasg hr hg he (fun e => by cases e) fun a1 w1 μ1 hm1 hr1 he1 hd1 => ?_
  have hhas : μ.has l := (hr.obj l (by rw [hl]; simp)).1
  have hb1 : (μ1.f l).blk = (μ.f l).blk := by rw [(hm1 l hhas).2]
  obtain ⟨N1, r1, g1, g2, g3, g4, g5, g6, g7, g8, g9⟩ := hr1.at_ hl1 (by simp)
  rw [hb1] at g1
  have hgo1 : (Instr.getLoop (μ.f l).blk).run P w1 = .ok r1 w1 := by simp [Instr.getLoop, getObj, Sem.run, g1]
  -- the record is busy
  have hbusy := setLoop (st' := .busy) (pend' := p) (c := r1.pending) hr1 hl1 (r := r1) (by rw [hb1]; exact g1) g3
  rw [hb1] at hbusy
  obtain ⟨s1, s2⟩ := hbusy
  have hbr : (Instr.beginRound (μ.f l).blk).run P w1 = .ok () { w1 with heap := w1.heap.setIfInBounds (μ.f l).blk (.loop { r1 with state := .busy }) } := by
    have : ({ r1 with state := .busy, pending := r1.pending } : Loop) = { r1 with state := .busy } := rfl
    rw [this] at s1
    simp only [Instr.beginRound, Sem.run_bind, hgo1, Result.andThen_ok, s1, g2]
    rfl
  refine ⟨_, hbr, ?_⟩
  refine code_sound hdr hcf fuel N true (some (μ.f l).blk) (fun e => by cases e) (n - 1) rc.body a1 env1 _ _ μ1 e env3 H3 _ hbody s2 (hg.mono hm1) he1 (fun e => by cases e) fun a3 w3 μ3 hm3 hr3 he3 hd3 => ?_
  have hmm : μ.le μ3 := Mp.le_trans hm1 hm3
  have hb3 : (μ3.f l).blk = (μ.f l).blk := by rw [(hmm l hhas).2]
  obtain ⟨N3, r3, k1, k2, k3, k4, k5, k6, k7, k8, k9⟩ := hr3.at_ hl3 (by simp)
  rw [hb3] at k1
  have hgo3 : (Instr.getLoop (μ.f l).blk).run P w3 = .ok r3 w3 := by simp [Instr.getLoop, getObj, Sem.run, k1]
  have fin : ∀ (j : Option Code), pendR pe j → (j.isNone = true → st4 = .ready) → (j.isNone = false → st4 = .done) → v = .b j.isNone →
      ∃ v' w', (Instr.endRound (μ.f l).blk j).run P w3 = .ok v' w' ∧ (match (Ending.returned v', w') with
        | (.returned v, w'') => K (act.put o.dst v) w''
        | (.panicked chain, w'') => Q (.panic chain) act w''
        | (.outgrown, _) => LetsOut Q) := fun j hj e1 e2 hvj => by
    have hst := setLoop (st' := st4) (pend' := pe) (c := j) hr3 hl3 (r := r3) (by rw [hb3]; exact k1) hj
    rw [hb3] at hst
    obtain ⟨t1, t2⟩ := hst
    have hs4 : (if j.isNone then LoopState.ready else .done) = st4 := by
      cases hjn : j.isNone with
      | true => rw [e1 hjn]; rfl
      | false => rw [e2 hjn]; rfl
    refine ⟨.bool j.isNone, _, ?_, hK (.bool j.isNone) _ μ3 hmm (by rw [hH']; exact t2.mark _) (by rw [hvj]; rfl)⟩
    simp only [Instr.endRound, Sem.run_bind, hgo3, Result.andThen_ok, hs4, t1, Sem.run_pure]
  rcases hcase with ⟨rfl, rfl, rfl, rfl⟩ | ⟨hne, rfl, rfl, rfl⟩
  · obtain ⟨v', w', f1, f2⟩ := fin none rfl (fun _ => rfl) (fun e => by cases e) rfl
    exact ⟨v', w', f1, f2⟩
  · cases e with
    | nm => exact absurd rfl hne
    | ex id =>
      obtain ⟨v', w', f1, f2⟩ := fin (some (.exit id)) rfl (fun e => by cases e) (fun _ => rfl) rfl
      exact ⟨v', w', f1, f2⟩
    | rt =>
      obtain ⟨v', w', f1, f2⟩ := fin (some .ret) rfl (fun e => by cases e) (fun _ => rfl) rfl
      exact ⟨v', w', f1, f2⟩
/-- Every call. -/
theorem evFn_sound {dr : DregF} (hdr : DregOK P dr) {X : CallF} (hX : ∀ B w0, CallOK P B w0 X) {F : Nat → Option AF} (hF : ∀ f af, F f = some af → compF P f = some af) : ∀ n B w0, CallOK P B w0 (evFn dr X F n)
  | 0 => fun B w0 c args H v H' μ w us hv => by simp [evFn] at hv
  | n + 1 => fun B w0 c args H v H' μ w us hv hr hg ha => by
    have ih := evFn_sound hdr hX hF n
    simp only [evFn] at hv
    split at hv
    · rename_i r hx
      simp at hv; subst hv
      exact hX B w0 c args H v H' μ w us hx hr hg ha
    · split at hv
      · rename_i f _
        split at hv <;> try (simp at hv; done)
        rename_i af haf
        obtain ⟨h0, h1, h2⟩ := body_sound hdr ih n (hF f af haf) hv hr hg ha
        exact ⟨h0, UponR.of_calls h1 h2⟩
      · rename_i f _
        split at hv <;> try (simp at hv; done)
        rename_i af haf
        obtain ⟨h0, h1, h2⟩ := body_sound hdr ih n (hF f af haf) hv hr hg ha
        exact ⟨h0, h1, h2⟩
      · exact round_sound hdr ih n hv hr hg ha
end
end Go.Fw
end
section
/- The framework, part T: a fast twin of the evaluator, for the kernel: recursors whose arms are closed, everything handed on written out. It is the evaluator. -/
namespace Go.Fw
noncomputable def Tr.getF : Pth → Tr → AV := fun p => Pth.rec (motive := fun _ => Tr → AV) (fun t => Tr.rec (motive := fun _ => AV) undefA (fun v _ _ _ _ => v) t) (fun _ ih t => Tr.rec (motive := fun _ => (Tr → AV) → AV) (fun _ => undefA) (fun _ l _ _ _ ih => ih l) t ih) (fun _ ih t => Tr.rec (motive := fun _ => (Tr → AV) → AV) (fun _ => undefA) (fun _ _ r _ _ ih => ih r) t ih) p
theorem Tr.getF_eq : ∀ (p : Pth) (t : Tr), Tr.getF p t = t.get p
  | .h, t => by cases t <;> rfl
  | .l p, t => by cases t with | e => rfl | n v l r => exact Tr.getF_eq p l
  | .r p, t => by cases t with | e => rfl | n v l r => exact Tr.getF_eq p r
section
variable {β : Type}
noncomputable def Tr.setF : Pth → AV → Tr → (Tr → β) → β := fun p => Pth.rec (motive := fun _ => AV → Tr → (Tr → β) → β)
  (fun v t K => Tr.rec (motive := fun _ => AV → (Tr → β) → β) (fun v K => K (.n v .e .e)) (fun _ l r _ _ v K => K (.n v l r)) t v K)
  (fun _ ih v t K => Tr.rec (motive := fun _ => (AV → Tr → (Tr → β) → β) → AV → (Tr → β) → β) (fun ih v K => ih v .e fun x => K (.n undefA x .e)) (fun u l r _ _ ih v K => ih v l fun x => K (.n u x r)) t ih v K)
  (fun _ ih v t K => Tr.rec (motive := fun _ => (AV → Tr → (Tr → β) → β) → AV → (Tr → β) → β) (fun ih v K => ih v .e fun x => K (.n undefA .e x)) (fun u l r _ _ ih v K => ih v r fun x => K (.n u l x)) t ih v K) p
theorem Tr.setF_eq : ∀ (p : Pth) (v : AV) (t : Tr) (K : Tr → β), Tr.setF p v t K = K (t.set p v)
  | .h, v, t, K => by cases t <;> rfl
  | .l p, v, t, K => by
    cases t with
    | e => exact Tr.setF_eq p v .e fun x => K (.n undefA x .e)
    | n u l r => exact Tr.setF_eq p v l fun x => K (.n u x r)
  | .r p, v, t, K => by
    cases t with
    | e => exact Tr.setF_eq p v .e fun x => K (.n undefA .e x)
    | n u l r => exact Tr.setF_eq p v r fun x => K (.n u l x)
noncomputable def opdF : Opd → Tr → AV := fun x => Opd.rec (motive := fun _ => Tr → AV) (fun p env => Tr.getF p env) (fun v _ => v) (fun n _ => .p (some (n, 0))) (fun n _ => .fn n [] []) x
theorem opdF_eq (x : Opd) (env : Tr) : opdF x env = opd env x := by
  cases x with
  | t p => exact Tr.getF_eq p env
  | _ => rfl
noncomputable def natF : Nat → (Nat → β) → β := fun n => Nat.rec (motive := fun _ => (Nat → β) → β) (fun K => K 0) (fun n _ K => K (Nat.succ n)) n
theorem natF_eq (n : Nat) (K : Nat → β) : natF n K = K n := by cases n <;> rfl
noncomputable def intF : Int → (Int → β) → β := fun n => Int.rec (motive := fun _ => (Int → β) → β) (fun n K => natF n fun n => K (.ofNat n)) (fun n K => natF n fun n => K (.negSucc n)) n
theorem intF_eq (n : Int) (K : Int → β) : intF n K = K n := by cases n <;> exact natF_eq _ _
noncomputable def boolF : Bool → (AV → β) → β := fun b => Bool.rec (motive := fun _ => (AV → β) → β) (fun K => K (.b false)) (fun K => K (.b true)) b
theorem boolF_eq (b : Bool) (K : AV → β) : boolF b K = K (.b b) := by cases b <;> rfl
noncomputable def valF : AV → (AV → β) → β := fun v => AV.rec (motive_1 := fun _ => (AV → β) → β) (motive_2 := fun _ => PUnit)
  (fun b => boolF b) (fun k n K => intF n fun n => K (.i k n)) (fun l K => K (.s l)) (fun p K => K (.p p)) (fun a b c d K => natF a fun a => natF b fun b => natF c fun c => K (.sl a b c d)) (fun K => K .esl) (fun K => K .nsl) (fun r K => K (.m r)) (fun f a b _ _ K => K (.fn f a b)) (fun K => K .nfn) (fun t v _ K => K (.ifc t v)) (fun K => K .nif) (fun l _ K => K (.agg l)) (fun l _ K => K (.tup l)) (fun l K => K (.yld l)) ⟨⟩ (fun _ _ _ _ => ⟨⟩) v
theorem valF_eq (v : AV) (K : AV → β) : valF v K = K v := by
  cases v <;> first
    | rfl
    | exact boolF_eq _ _
    | exact intF_eq _ _
    | (show natF _ _ = _; simp only [natF_eq])
noncomputable def isI : AV → (IntKind → Int → β) → (Unit → β) → β := fun v => AV.rec (motive_1 := fun _ => (IntKind → Int → β) → (Unit → β) → β) (motive_2 := fun _ => PUnit)
  (fun _ _ d => d ()) (fun k n K _ => K k n) (fun _ _ d => d ()) (fun _ _ d => d ()) (fun _ _ _ _ _ d => d ()) (fun _ d => d ()) (fun _ d => d ()) (fun _ _ d => d ()) (fun _ _ _ _ _ _ d => d ()) (fun _ d => d ()) (fun _ _ _ _ d => d ()) (fun _ d => d ()) (fun _ _ _ d => d ()) (fun _ _ _ d => d ()) (fun _ _ d => d ()) ⟨⟩ (fun _ _ _ _ => ⟨⟩) v
noncomputable def isS : AV → (List UInt8 → β) → (Unit → β) → β := fun v => AV.rec (motive_1 := fun _ => (List UInt8 → β) → (Unit → β) → β) (motive_2 := fun _ => PUnit)
  (fun _ _ d => d ()) (fun _ _ _ d => d ()) (fun l K _ => K l) (fun _ _ d => d ()) (fun _ _ _ _ _ d => d ()) (fun _ d => d ()) (fun _ d => d ()) (fun _ _ d => d ()) (fun _ _ _ _ _ _ d => d ()) (fun _ d => d ()) (fun _ _ _ _ d => d ()) (fun _ d => d ()) (fun _ _ _ d => d ()) (fun _ _ _ d => d ()) (fun _ _ d => d ()) ⟨⟩ (fun _ _ _ _ => ⟨⟩) v
noncomputable def isB : AV → (Bool → β) → (Unit → β) → β := fun v => AV.rec (motive_1 := fun _ => (Bool → β) → (Unit → β) → β) (motive_2 := fun _ => PUnit)
  (fun b K _ => K b) (fun _ _ _ d => d ()) (fun _ _ d => d ()) (fun _ _ d => d ()) (fun _ _ _ _ _ d => d ()) (fun _ d => d ()) (fun _ d => d ()) (fun _ _ d => d ()) (fun _ _ _ _ _ _ d => d ()) (fun _ d => d ()) (fun _ _ _ _ d => d ()) (fun _ d => d ()) (fun _ _ _ d => d ()) (fun _ _ _ d => d ()) (fun _ _ d => d ()) ⟨⟩ (fun _ _ _ _ => ⟨⟩) v
noncomputable def isP : AV → (Nat → Nat → β) → (Unit → β) → β := fun v => AV.rec (motive_1 := fun _ => (Nat → Nat → β) → (Unit → β) → β) (motive_2 := fun _ => PUnit)
  (fun _ _ d => d ()) (fun _ _ _ d => d ()) (fun _ _ d => d ()) (fun p K d => Option.rec (motive := fun _ => (Nat → Nat → β) → (Unit → β) → β) (fun _ d => d ()) (fun q K _ => Prod.rec (motive := fun _ => (Nat → Nat → β) → β) (fun a b K => K a b) q K) p K d) (fun _ _ _ _ _ d => d ()) (fun _ d => d ()) (fun _ d => d ()) (fun _ _ d => d ()) (fun _ _ _ _ _ _ d => d ()) (fun _ d => d ()) (fun _ _ _ _ d => d ()) (fun _ d => d ()) (fun _ _ _ d => d ()) (fun _ _ _ d => d ()) (fun _ _ d => d ()) ⟨⟩ (fun _ _ _ _ => ⟨⟩) v
end
section
variable {β : Type}
abbrev StepT (β : Type) := CallF → Tr → Mem → (AV → Mem → Option β) → Option β
/-- What a step is to be. -/
def StepT.spec (o : AOp) : StepT β := fun cf env H K => match evOp cf env H o with
  | some (v, H') => K v H'
  | none => none
noncomputable def slowF (o : AOp) : StepT β := fun cf env H K => match evOp cf env H o with
  | some (v, H') => frcV o.deep v fun v => frcM H' fun H' => K v H'
  | none => none
theorem slowF_eq (o : AOp) : (slowF o : StepT β) = StepT.spec o := by
  funext cf env H K
  unfold slowF StepT.spec
  cases evOp cf env H o with
  | none => rfl
  | some r => obtain ⟨v, H'⟩ := r; simp only [frcV_eq, frcM_eq]
noncomputable def optF (v : Option AV) (K : AV → Option β) : Option β := Option.rec (motive := fun _ => (AV → Option β) → Option β) (fun _ => none) (fun v K => valF v K) v K
theorem optF_eq (v : Option AV) (K : AV → Option β) : optF v K = match v with | some v => K v | none => none := by
  cases v with
  | none => rfl
  | some v => exact valF_eq _ _
noncomputable def addF : IntKind → Int → Int → (AV → Option β) → Option β := fun k a => Int.rec (motive := fun _ => IntKind → Int → (AV → Option β) → Option β)
  (fun m k b => Int.rec (motive := fun _ => Nat → IntKind → (AV → Option β) → Option β)
    (fun n m k K => natF (Nat.add m n) fun s => Bool.rec (motive := fun _ => IntKind → Nat → (AV → Option β) → Option β) (fun k s K => optF (binI .add k (.ofNat s) (.ofNat 0)) K) (fun k s K => K (.i k (.ofNat s))) (Nat.ble (Nat.succ s) (half k)) k s K)
    (fun n m k K => optF (binI .add k (.ofNat m) (.negSucc n)) K) b m k)
  (fun m k b K => optF (binI .add k (.negSucc m) b) K) a k
theorem addF_eq (k : IntKind) (a b : Int) (K : AV → Option β) : addF k a b K = K (.i k (wr k (a + b))) := by
  cases a with
  | negSucc m => show optF (binI .add k (.negSucc m) b) K = _; rw [optF_eq]; rfl
  | ofNat m =>
    cases b with
    | negSucc n => show optF (binI .add k (.ofNat m) (.negSucc n)) K = _; rw [optF_eq]; rfl
    | ofNat n =>
      show natF (Nat.add m n) _ = _
      rw [natF_eq]
      have e : wr k (Int.ofNat m + Int.ofNat n) = bif Nat.blt (m + n) (half k) then .ofNat (m + n) else k.wrap (.ofNat (m + n)) := rfl
      cases h : Nat.ble (Nat.succ (m + n)) (half k) with
      | true =>
        have h2 : Nat.blt (m + n) (half k) = true := h
        rw [e, h2]; simp only [Nat.add_eq, h]; rfl
      | false =>
        simp only [Nat.add_eq, h]
        show optF (binI .add k (.ofNat (m + n)) (.ofNat 0)) K = _
        rw [optF_eq]; rfl
noncomputable def binIF : BinOp → IntKind → Int → Int → (AV → Option β) → Option β := fun op => BinOp.rec (motive := fun _ => IntKind → Int → Int → (AV → Option β) → Option β)
  (fun k a b K => addF k a b K)
  (fun k a b K => optF (binI .sub k a b) K)
  (fun k a b K => optF (binI .mul k a b) K)
  (fun k a b K => optF (binI .quo k a b) K)
  (fun k a b K => optF (binI .rem k a b) K)
  (fun k a b K => optF (binI .and k a b) K)
  (fun k a b K => optF (binI .or k a b) K)
  (fun k a b K => optF (binI .xor k a b) K)
  (fun k a b K => optF (binI .shl k a b) K)
  (fun k a b K => optF (binI .shr k a b) K)
  (fun k a b K => optF (binI .andNot k a b) K)
  (fun _ a b K => boolF (eqI a b) K)
  (fun _ a b K => boolF (!eqI a b) K)
  (fun _ a b K => boolF (ltI a b) K)
  (fun _ a b K => boolF (!ltI b a) K)
  (fun _ a b K => boolF (ltI b a) K)
  (fun _ a b K => boolF (!ltI a b) K) op
theorem binIF_eq (op : BinOp) (k : IntKind) (a b : Int) (K : AV → Option β) : binIF op k a b K = match binI op k a b with | some v => K v | none => none := by
  cases op
  case sub => rw [show binIF .sub k a b K = optF (binI .sub k a b) K from rfl, optF_eq]
  case mul => rw [show binIF .mul k a b K = optF (binI .mul k a b) K from rfl, optF_eq]
  case quo => rw [show binIF .quo k a b K = optF (binI .quo k a b) K from rfl, optF_eq]
  case rem => rw [show binIF .rem k a b K = optF (binI .rem k a b) K from rfl, optF_eq]
  case and => rw [show binIF .and k a b K = optF (binI .and k a b) K from rfl, optF_eq]
  case or => rw [show binIF .or k a b K = optF (binI .or k a b) K from rfl, optF_eq]
  case xor => rw [show binIF .xor k a b K = optF (binI .xor k a b) K from rfl, optF_eq]
  case shl => rw [show binIF .shl k a b K = optF (binI .shl k a b) K from rfl, optF_eq]
  case shr => rw [show binIF .shr k a b K = optF (binI .shr k a b) K from rfl, optF_eq]
  case andNot => rw [show binIF .andNot k a b K = optF (binI .andNot k a b) K from rfl, optF_eq]
  case add => exact addF_eq k a b K
  all_goals exact boolF_eq _ _
noncomputable def sameK : IntKind → IntKind → Bool := fun a => IntKind.rec (motive := fun _ => IntKind → Bool)
  (fun b => IntKind.rec true false false false false false false false b) (fun b => IntKind.rec false true false false false false false false b) (fun b => IntKind.rec false false true false false false false false b) (fun b => IntKind.rec false false false true false false false false b)
  (fun b => IntKind.rec false false false false true false false false b) (fun b => IntKind.rec false false false false false true false false b) (fun b => IntKind.rec false false false false false false true false b) (fun b => IntKind.rec false false false false false false false true b) a
theorem sameK_eq (a b : IntKind) : sameK a b = decide (a = b) := by cases a <;> cases b <;> rfl
noncomputable def isSh : BinOp → Bool := fun op => BinOp.rec false false false false false false false false true true false false false false false false false op
noncomputable def nthF : List UInt8 → Nat → (UInt8 → Option β) → Option β := fun l => List.rec (motive := fun _ => Nat → (UInt8 → Option β) → Option β) (fun _ _ => none) (fun x _ ih n K => Nat.rec (motive := fun _ => UInt8 → (Nat → (UInt8 → Option β) → Option β) → (UInt8 → Option β) → Option β) (fun x _ K => K x) (fun n _ _ ih K => ih n K) n x ih K) l
theorem nthF_eq : ∀ (l : List UInt8) (n : Nat) (K : UInt8 → Option β), nthF l n K = match l[n]? with | some c => K c | none => none
  | [], n, K => rfl
  | x :: l, 0, K => rfl
  | x :: l, n + 1, K => by
    show nthF l n K = _
    rw [nthF_eq l n K]; rfl
noncomputable def lenF : List UInt8 → Nat → (Nat → Option β) → Option β := fun l => List.rec (motive := fun _ => Nat → (Nat → Option β) → Option β) (fun n K => K n) (fun _ _ ih n K => natF (Nat.succ n) fun n => ih n K) l
theorem lenF_eq : ∀ (l : List UInt8) (n : Nat) (K : Nat → Option β), lenF l n K = K (l.length + n)
  | [], n, K => by show K n = _; simp
  | x :: l, n, K => by
    show natF (Nat.succ n) (fun n => lenF l n K) = _
    rw [natF_eq, lenF_eq l]
    congr 1; simp; omega
noncomputable def mvF (x : Opd) : StepT β := fun _ env H K => valF (opdF x env) fun v => K v H
noncomputable def pickF (c a b : Opd) : StepT β := fun cf env H K => isB (opdF c env) (fun t => Bool.rec (motive := fun _ => Option β) (valF (opdF b env) fun v => K v H) (valF (opdF a env) fun v => K v H) t) fun _ => slowF (.pick c a b) cf env H K
noncomputable def binF (op : BinOp) (e : EqK) (x y : Opd) : StepT β := fun cf env H K => isI (opdF x env) (fun k a => isI (opdF y env) (fun k' b => Bool.rec (motive := fun _ => Option β) (slowF (.bin op e x y) cf env H K) (binIF op k a b fun v => K v H) (Bool.rec (sameK k k') false (isSh op))) fun _ => slowF (.bin op e x y) cf env H K) fun _ => slowF (.bin op e x y) cf env H K
noncomputable def ixSF (x i : Opd) : StepT β := fun cf env H K => isS (opdF x env) (fun l => isI (opdF i env) (fun _ n => Int.rec (motive := fun _ => Option β) (fun n => nthF l n fun c => natF c.toNat fun n => K (.i .u8 (.ofNat n)) H) (fun _ => slowF (.ixS x i) cf env H K) n) fun _ => slowF (.ixS x i) cf env H K) fun _ => slowF (.ixS x i) cf env H K
noncomputable def lenSF (x : Opd) : StepT β := fun cf env H K => isS (opdF x env) (fun l => lenF l 0 fun n => K (.i .i64 (.ofNat n)) H) fun _ => slowF (.lenS x) cf env H K
noncomputable def fldAF (o : Nat) (p : Opd) : StepT β := fun cf env H K => isP (opdF p env) (fun a b => natF (Nat.add b o) fun b => K (.p (some (a, b))) H) fun _ => slowF (.fldA o p) cf env H K
noncomputable def notF (x : Opd) : StepT β := fun cf env H K => isB (opdF x env) (fun b => boolF (!b) fun v => K v H) fun _ => slowF (.un .not x) cf env H K
noncomputable def unF (op : UnOp) (x : Opd) : StepT β := UnOp.rec (motive := fun _ => StepT β) (slowF (.un .neg x)) (slowF (.un .xor x)) (notF x) (slowF (.un .plus x)) op
noncomputable def argsF : List Opd → Tr → (List AV → Option β) → Option β := fun l => List.rec (motive := fun _ => Tr → (List AV → Option β) → Option β) (fun _ K => K []) (fun x _ ih env K => valF (opdF x env) fun v => ih env fun vs => K (v :: vs)) l
theorem argsF_eq : ∀ (l : List Opd) (env : Tr) (K : List AV → Option β), argsF l env K = K (l.map (opd env))
  | [], env, K => rfl
  | x :: l, env, K => by
    show valF (opdF x env) (fun v => argsF l env fun vs => K (v :: vs)) = _
    rw [valF_eq, argsF_eq, opdF_eq]; rfl
noncomputable def retF (r : Option (AV × Mem)) (K : AV → Mem → Option β) : Option β := Option.rec (motive := fun _ => (AV → Mem → Option β) → Option β) (fun _ => none) (fun p K => Prod.rec (motive := fun _ => (AV → Mem → Option β) → Option β) (fun v H K => K v H) p K) r K
noncomputable def callF_ (f : Nat) (l : List Opd) : StepT β := fun cf env H K => argsF l env fun args => retF (cf (.f f) args H) K
noncomputable def stepF : AOp → StepT β := fun o => AOp.rec (motive := fun _ => StepT β)
   (fun x => mvF x) (fun c a b => pickF c a b) (fun z n t => slowF (.alloc z n t)) (fun t x => slowF (.box t x)) (fun z p => slowF (.build z p)) (fun z n sz t p => slowF (.buildSl z n sz t p)) (fun g n p => slowF (.load g n p)) (fun n p x => slowF (.store n p x)) (fun x => slowF (.nilc x))
   (fun op e x y => binF op e x y) (fun op x => unF op x) (fun c x => slowF (.conv c x)) (fun t x => slowF (.mkif t x)) (fun f a b => slowF (.mkfn f a b)) (slowF .mkmap) (fun z k ok m x => slowF (.look z k ok m x)) (fun k m x v => slowF (.upd k m x v)) (fun z a b t l c => slowF (.mksl z a b t l c))
   (fun x a b => slowF (.slS x a b)) (fun n x a b c => slowF (.slV n x a b c)) (fun n z x a b => slowF (.slA n z x a b)) (fun o p => fldAF o p) (fun g n o x => slowF (.fld g n o x)) (fun n z p i => slowF (.ixA n z p i)) (fun z p i => slowF (.ixV z p i)) (fun p i => ixSF p i) (fun g n z p i => slowF (.ixG g n z p i)) (fun x j => slowF (.ext x j))
   (fun f a => callF_ f a) (fun f a => slowF (.callv f a)) (fun x => lenSF x) (fun x => slowF (.lenV x)) (fun n => slowF (.lenA n)) (fun x => slowF (.lenM x)) (fun x => slowF (.capV x)) (fun a b t z s x => slowF (.app a b t z s x)) (fun n d s => slowF (.copy n d s)) (fun m l => slowF (.mnmx m l)) o
theorem isI_eq {γ : Type} (v : AV) (f : IntKind → Int → γ) (d : Unit → γ) : (∃ k n, v = .i k n ∧ isI v f d = f k n) ∨ ((∀ k n, v ≠ .i k n) ∧ isI v f d = d ()) := by
  cases v <;> first | exact .inl ⟨_, _, rfl, rfl⟩ | exact .inr ⟨fun _ _ e => (by cases e), rfl⟩
theorem isS_eq {γ : Type} (v : AV) (f : List UInt8 → γ) (d : Unit → γ) : (∃ l, v = .s l ∧ isS v f d = f l) ∨ ((∀ l, v ≠ .s l) ∧ isS v f d = d ()) := by
  cases v <;> first | exact .inl ⟨_, rfl, rfl⟩ | exact .inr ⟨fun _ e => (by cases e), rfl⟩
theorem isB_eq {γ : Type} (v : AV) (f : Bool → γ) (d : Unit → γ) : (∃ b, v = .b b ∧ isB v f d = f b) ∨ ((∀ b, v ≠ .b b) ∧ isB v f d = d ()) := by
  cases v <;> first | exact .inl ⟨_, rfl, rfl⟩ | exact .inr ⟨fun _ e => (by cases e), rfl⟩
theorem isP_eq {γ : Type} (v : AV) (f : Nat → Nat → γ) (d : Unit → γ) : (∃ a b, v = .p (some (a, b)) ∧ isP v f d = f a b) ∨ isP v f d = d () := by
  cases v with
  | p a => rcases a with _ | ⟨a, b⟩ <;> first | exact .inr rfl | exact .inl ⟨_, _, rfl, rfl⟩
  | _ => exact .inr rfl
theorem binF_eq (op : BinOp) (e : EqK) (x y : Opd) : (binF op e x y : StepT β) = StepT.spec (.bin op e x y) := by
  funext cf env H K
  unfold binF
  rcases isI_eq (opdF x env) (fun k a => isI (opdF y env) (fun k' b => Bool.rec (motive := fun _ => Option β) (slowF (.bin op e x y) cf env H K) (binIF op k a b fun v => K v H) (Bool.rec (sameK k k') false (isSh op))) fun _ => slowF (.bin op e x y) cf env H K) (fun _ => slowF (.bin op e x y) cf env H K) with ⟨k, a, h1, h2⟩ | ⟨_, h2⟩
  · rw [h2]
    rcases isI_eq (opdF y env) (fun k' b => Bool.rec (motive := fun _ => Option β) (slowF (.bin op e x y) cf env H K) (binIF op k a b fun v => K v H) (Bool.rec (sameK k k') false (isSh op))) (fun _ => slowF (.bin op e x y) cf env H K) with ⟨k', b, h3, h4⟩ | ⟨_, h4⟩
    · rw [h4]
      cases hc : (Bool.rec (motive := fun _ => Bool) (sameK k k') false (isSh op)) with
      | false => exact congrFun (congrFun (congrFun (congrFun (slowF_eq _) cf) env) H) K
      | true =>
        show binIF op k a b (fun v => K v H) = _
        rw [binIF_eq]
        have hk : k = k' := by
          cases hs : isSh op with
          | true => rw [hs] at hc; cases hc
          | false => rw [hs] at hc; simpa [sameK_eq] using hc
        subst hk
        have hb : binA op e (.i k a) (.i k b) = binI op k a b := by
          cases op <;> first | (simp [isSh] at hc; done) | simp [binA]
        simp only [StepT.spec, evOp, AOp.kd, pureA, ← opdF_eq, h1, h3, hb]
        cases binI op k a b <;> rfl
    · rw [h4]; exact congrFun (congrFun (congrFun (congrFun (slowF_eq _) cf) env) H) K
  · rw [h2]; exact congrFun (congrFun (congrFun (congrFun (slowF_eq _) cf) env) H) K
theorem slowF_eq' (o : AOp) (cf : CallF) (env : Tr) (H : Mem) (K : AV → Mem → Option β) : slowF o cf env H K = StepT.spec o cf env H K := by rw [slowF_eq]
theorem of_slow {o : AOp} (h : (stepF o : StepT β) = slowF o) : (stepF o : StepT β) = StepT.spec o := h.trans (slowF_eq o)
theorem stepF_eq (o : AOp) : (stepF o : StepT β) = StepT.spec o := by
  cases o
  case mv x => funext cf env H K; show valF _ _ = _; rw [valF_eq, opdF_eq]; rfl
  case pick c a b =>
    funext cf env H K
    show pickF c a b cf env H K = _
    unfold pickF
    rcases isB_eq (opdF c env) (fun t => Bool.rec (motive := fun _ => Option β) (valF (opdF b env) fun v => K v H) (valF (opdF a env) fun v => K v H) t) (fun _ => slowF (.pick c a b) cf env H K) with ⟨t, h1, h2⟩ | ⟨_, h2⟩
    · rw [h2]
      simp only [StepT.spec, evOp, AOp.kd, pureA, ← opdF_eq, h1]
      cases t <;> exact valF_eq _ _
    · rw [h2]; exact slowF_eq' _ _ _ _ _
  case bin op e x y => exact binF_eq op e x y
  case un op x =>
    cases op
    case not =>
      funext cf env H K
      show notF x cf env H K = _
      unfold notF
      rcases isB_eq (opdF x env) (fun b => boolF (!b) fun v => K v H) (fun _ => slowF (.un .not x) cf env H K) with ⟨t, h1, h2⟩ | ⟨_, h2⟩
      · rw [h2, boolF_eq]
        simp only [StepT.spec, evOp, AOp.kd, pureA, ← opdF_eq, h1, unA]
      · rw [h2]; exact slowF_eq' _ _ _ _ _
    all_goals exact of_slow rfl
  case fldA o p =>
    funext cf env H K
    show fldAF o p cf env H K = _
    unfold fldAF
    rcases isP_eq (opdF p env) (fun a b => natF (Nat.add b o) fun b => K (.p (some (a, b))) H) (fun _ => slowF (.fldA o p) cf env H K) with ⟨a, b, h1, h2⟩ | h2
    · rw [h2, natF_eq]
      simp only [StepT.spec, evOp, AOp.kd, pureA, ← opdF_eq, h1]; rfl
    · rw [h2]; exact slowF_eq' _ _ _ _ _
  case ixS x i =>
    funext cf env H K
    show ixSF x i cf env H K = _
    unfold ixSF
    rcases isS_eq (opdF x env) (fun l => isI (opdF i env) (fun _ n => Int.rec (motive := fun _ => Option β) (fun n => nthF l n fun c => natF c.toNat fun n => K (.i .u8 (.ofNat n)) H) (fun _ => slowF (.ixS x i) cf env H K) n) fun _ => slowF (.ixS x i) cf env H K) (fun _ => slowF (.ixS x i) cf env H K) with ⟨l, h1, h2⟩ | ⟨_, h2⟩
    · rw [h2]
      rcases isI_eq (opdF i env) (fun _ n => Int.rec (motive := fun _ => Option β) (fun n => nthF l n fun c => natF c.toNat fun n => K (.i .u8 (.ofNat n)) H) (fun _ => slowF (.ixS x i) cf env H K) n) (fun _ => slowF (.ixS x i) cf env H K) with ⟨k, n, h3, h4⟩ | ⟨_, h4⟩
      · rw [h4]
        cases n with
        | ofNat n =>
          show nthF l n _ = _
          rw [nthF_eq]
          simp only [StepT.spec, evOp, AOp.kd, pureA, ← opdF_eq, h1, h3, natOf]
          cases l[n]? with
          | none => rfl
          | some c => simp only [natF_eq]; rfl
        | negSucc n => exact slowF_eq' _ _ _ _ _
      · rw [h4]; exact slowF_eq' _ _ _ _ _
    · rw [h2]; exact slowF_eq' _ _ _ _ _
  case lenS x =>
    funext cf env H K
    show lenSF x cf env H K = _
    unfold lenSF
    rcases isS_eq (opdF x env) (fun l => lenF l 0 fun n => K (.i .i64 (.ofNat n)) H) (fun _ => slowF (.lenS x) cf env H K) with ⟨l, h1, h2⟩ | ⟨_, h2⟩
    · rw [h2, lenF_eq]
      simp only [StepT.spec, evOp, AOp.kd, pureA, ← opdF_eq, h1]; rfl
    · rw [h2]; exact slowF_eq' _ _ _ _ _
  case call f l =>
    funext cf env H K
    show argsF l env _ = _
    rw [argsF_eq]
    simp only [StepT.spec, evOp, AOp.kd, callA, frcVs_eq]
    cases cf (.f f) (l.map (opd env)) H with
    | none => rfl
    | some r => rfl
  all_goals exact of_slow rfl
noncomputable def putF : Option Pth → AV → Tr → (Tr → Option β) → Option β := fun d => Option.rec (motive := fun _ => AV → Tr → (Tr → Option β) → Option β) (fun _ env K => K env) (fun d v env K => Tr.setF d v env K) d
theorem putF_eq (d : Option Pth) (v : AV) (env : Tr) (K : Tr → Option β) : putF d v env K = K (putE env d v) := by
  cases d with
  | none => rfl
  | some d => exact Tr.setF_eq _ _ _ _
noncomputable def guardF : Option (Pth × Bool) → Tr → Bool := fun g => Option.rec (motive := fun _ => Tr → Bool) (fun _ => true) (fun pb => Prod.rec (motive := fun _ => Tr → Bool) (fun p b env => isB (Tr.getF p env) (fun x => Bool.rec (Bool.rec true false b) b x) fun _ => false) pb) g
theorem guardF_eq (g : Option (Pth × Bool)) (env : Tr) : guardF g env = wantA env g := by
  cases g with
  | none => rfl
  | some pb =>
    obtain ⟨p, b⟩ := pb
    show isB (Tr.getF p env) _ _ = _
    rw [Tr.getF_eq]
    simp only [wantA]
    cases env.get p <;> first | rfl | (rename_i x; cases x <;> cases b <;> rfl)
noncomputable def operF : AOper → CallF → Tr → Mem → (Tr → Mem → Option β) → Option β := fun o => AOper.rec (motive := fun _ => CallF → Tr → Mem → (Tr → Mem → Option β) → Option β)
  (fun dst op g cf env H ih => Bool.rec (motive := fun _ => Option Pth → AOp → CallF → Tr → Mem → (Tr → Mem → Option β) → Option β) (fun dst _ _ env H ih => putF dst undefA env fun env => ih env H) (fun dst op cf env H ih => stepF op cf env H fun v H => putF dst v env fun env => ih env H) (guardF g env) dst op cf env H ih) o
noncomputable def opsF : List AOper → CallF → (Tr → Mem → Option β) → Tr → Mem → Option β := fun l => List.rec (motive := fun _ => CallF → (Tr → Mem → Option β) → Tr → Mem → Option β) (fun _ K env H => K env H) (fun o _ ih cf K env H => operF o cf env H (ih cf K)) l
theorem opsF_eq (cf : CallF) (K : Tr → Mem → Option β) : ∀ (l : List AOper) (env : Tr) (H : Mem), opsF l cf K env H = match evOps cf l env H with | some (env', H') => K env' H' | none => none
  | [], env, H => rfl
  | o :: l, env, H => by
    obtain ⟨dst, op, g⟩ := o
    show (Bool.rec (motive := fun _ => Option Pth → AOp → CallF → Tr → Mem → (Tr → Mem → Option β) → Option β) (fun dst _ _ env H ih => putF dst undefA env fun env => ih env H) (fun dst op cf env H ih => stepF op cf env H fun v H => putF dst v env fun env => ih env H) (guardF g env) dst op cf env H (opsF l cf K)) = _
    rw [guardF_eq]
    simp only [evOps]
    cases wantA env g with
    | false =>
      show putF dst undefA env _ = _
      rw [putF_eq, putA_eq]; exact opsF_eq cf K l _ H
    | true =>
      show stepF op cf env H _ = _
      rw [stepF_eq]
      simp only [StepT.spec]
      cases evOp cf env H op with
      | none => rfl
      | some r =>
        obtain ⟨v, H'⟩ := r
        simp only [putF_eq, putA_eq, frcV_eq, frcM_eq]
        exact opsF_eq cf K l _ H'
abbrev CodeT (β : Type) := DregF → Bool → CallF → Nat → Tr → Mem → (Ex → Tr → Mem → Option β) → Option β
noncomputable def exF : Ex → (Unit → Option β) → (Ex → Option β) → Option β := fun e => Ex.rec (motive := fun _ => (Unit → Option β) → (Ex → Option β) → Option β) (fun a _ => a ()) (fun id _ b => b (.ex id)) (fun _ b => b .rt) e
noncomputable def loopF (body : Tr → Mem → (Ex → Tr → Mem → Option β) → Option β) (K : Ex → Tr → Mem → Option β) : Nat → Tr → Mem → Option β := fun n => Nat.rec (motive := fun _ => Tr → Mem → Option β) (fun _ _ => none) (fun _ ih env H => body env H fun e env H => exF e (fun _ => ih env H) fun e => K e env H) n
noncomputable def stF (r : StRes) (K : Ex → Tr → Mem → Option β) : Option β := match r with | some (e, env, H) => K e env H | none => none
noncomputable def codeF : AC → CodeT β := fun c =>
  AC.rec (motive := fun _ => CodeT β)
   (fun _ _ _ _ env H K => K .nm env H)
   (fun _ _ iha ihb dr rd cf fuel env H K => iha dr rd cf fuel env H fun e env H => exF e (fun _ => ihb dr rd cf fuel env H K) fun e => K e env H)
   (fun x _ _ iha ihb dr rd cf fuel env H K => isB (opdF x env) (fun t => Bool.rec (motive := fun _ => CodeT β → CodeT β → CodeT β) (fun _ b => b) (fun a _ => a) t iha ihb dr rd cf fuel env H K) fun _ => none)
   (fun id _ ih dr rd cf fuel env H K => ih dr rd cf fuel env H fun e env H => Ex.rec (motive := fun _ => Option β) (K .nm env H) (fun j => Bool.rec (motive := fun _ => Option β) (K (.ex j) env H) (K .nm env H) (Nat.beq j id)) (K .rt env H) e)
   (fun _ ih dr rd cf fuel env H K => loopF (ih dr rd cf fuel) K fuel env H)
   (fun id _ _ _ _ env H K => K (.ex id) env H)
   (fun _ _ _ _ env H K => K .rt env H)
   (fun ops _ _ cf _ env H K => opsF ops cf (fun env H => K .nm env H) env H)
   (fun ops before dr _ cf _ env H K => match dr cf ops before env H with | some (env, H) => K .nm env H | none => none)
   (fun g ps asg body _ _ dr rd cf fuel env H K => stF (evCode dr rd cf fuel (.rfun g ps asg body) env H) K)
   (fun _ _ _ _ _ _ _ => none) c
theorem codeF_eq (dr : DregF) (rd : Bool) (cf : CallF) (fuel : Nat) : ∀ (c : AC) (env : Tr) (H : Mem) (K : Ex → Tr → Mem → Option β), codeF c dr rd cf fuel env H K = stF (evCode dr rd cf fuel c env H) K := by
  intro c
  induction c with
  | skip => intro env H K; rfl
  | seq a b iha ihb =>
    intro env H K
    show codeF a dr rd cf fuel env H (fun e env H => exF e (fun _ => codeF b dr rd cf fuel env H K) fun e => K e env H) = _
    rw [iha]
    simp only [evCode]
    cases evCode dr rd cf fuel a env H with
    | none => rfl
    | some r =>
      obtain ⟨e, env', H'⟩ := r
      cases e with
      | nm => exact ihb env' H' K
      | _ => rfl
  | cond x a b iha ihb =>
    intro env H K
    show isB (opdF x env) (fun t => Bool.rec (motive := fun _ => CodeT β → CodeT β → CodeT β) (fun _ b => b) (fun a _ => a) t (codeF a) (codeF b) dr rd cf fuel env H K) (fun _ => none) = _
    rw [opdF_eq]
    simp only [evCode]
    cases opd env x <;> first | rfl | (rename_i t; cases t <;> first | exact iha env H K | exact ihb env H K)
  | block id c ih =>
    intro env H K
    show codeF c dr rd cf fuel env H (fun e env H => Ex.rec (motive := fun _ => Option β) (K .nm env H) (fun j => Bool.rec (motive := fun _ => Option β) (K (.ex j) env H) (K .nm env H) (Nat.beq j id)) (K .rt env H) e) = _
    rw [ih]
    simp only [evCode]
    cases evCode dr rd cf fuel c env H with
    | none => rfl
    | some r =>
      obtain ⟨e, env', H'⟩ := r
      cases e with
      | ex j =>
        simp only [stF]
        cases Nat.beq j id <;> rfl
      | _ => rfl
  | loop c ih =>
    intro env H K
    show loopF (codeF c dr rd cf fuel) K fuel env H = _
    simp only [evCode]
    have key : ∀ (n : Nat) (env : Tr) (H : Mem), loopF (codeF c dr rd cf fuel) K n env H = stF (loopN (evCode dr rd cf fuel c) n env H) K := by
      intro n
      induction n with
      | zero => intro env H; rfl
      | succ n ihn =>
        intro env H
        show codeF c dr rd cf fuel env H (fun e env H => exF e (fun _ => loopF (codeF c dr rd cf fuel) K n env H) fun e => K e env H) = _
        rw [ih]
        simp only [loopN]
        cases evCode dr rd cf fuel c env H with
        | none => rfl
        | some r =>
          obtain ⟨e, env', H'⟩ := r
          cases e with
          | nm => exact ihn env' H'
          | _ => rfl
    exact key fuel env H
  | exit id => intro env H K; rfl
  | ret => intro env H K; rfl
  | reg ops =>
    intro env H K
    show opsF ops cf (fun env H => K .nm env H) env H = _
    rw [opsF_eq]
    simp only [evCode]
    cases evOps cf ops env H with
    | none => rfl
    | some r => rfl
  | dreg ops before =>
    intro env H K
    simp only [evCode]
    show (match dr cf ops before env H with | some (env, H) => K .nm env H | none => none) = _
    cases dr cf ops before env H with
    | none => rfl
    | some r => rfl
  | rfun g ps asg body _ _ => intro env H K; rfl
  | bad => intro env H K; rfl
end
noncomputable def bodyF (dr : DregF) (cf : CallF) (fuel : Nat) (af : AF) (args : List AV) (H : Mem) : Option (AV × Mem) :=
  argsIn 0 args (trU af.ntmps) fun env => codeF af.body dr false cf fuel env (H.mark []) fun e env' H1 => match e with
    | .ex _ => none
    | _ => match endMarks H1.marks H1 with
      | some H2 => match resA env' H2 af.res with
        | some v => frcV true v fun v => frcM (H2.mark H.marks) fun H3 => some (v, H3)
        | none => none
      | none => none
theorem bodyF_eq (dr : DregF) (cf : CallF) (fuel : Nat) (af : AF) (args : List AV) (H : Mem) : bodyF dr cf fuel af args H = evBody dr cf fuel af args H := by
  unfold bodyF evBody
  congr 1
  funext env
  rw [codeF_eq]
  cases evCode dr false cf fuel af.body env (H.mark []) with
  | none => rfl
  | some r => rfl
noncomputable def roundF (dr : DregF) (cf : CallF) (fuel : Nat) (l : Nat) (args : List AV) (H : Mem) : Option (AV × Mem) :=
  match H.get l with
  | .loop st _ tmps ps asg body => match st, Nat.beq args.length ps.length with
    | .ready, true => setAll ps args tmps fun env => codeF asg dr true cf fuel env H fun e1 env1 H1 => match e1 with
      | .nm => match H1.get l with
        | .loop .ready p t2 ps2 a2 b2 => frcM (H1.put l (.loop .busy p t2 ps2 a2 b2)) fun H2 => codeF body dr true cf fuel env1 H2 fun e _ H3 => match H3.get l with
            | .loop _ _ t3 ps3 a3 b3 => match e with
              | .nm => frcM ((H3.put l (.loop .ready none t3 ps3 a3 b3)).mark H.marks) fun H4 => some (.b true, H4)
              | e => frcM ((H3.put l (.loop .done (some e) t3 ps3 a3 b3)).mark H.marks) fun H4 => some (.b false, H4)
            | _ => none
        | _ => none
      | _ => none
    | _, _ => none
  | _ => none
theorem roundF_eq (dr : DregF) (cf : CallF) (fuel : Nat) (l : Nat) (args : List AV) (H : Mem) : roundF dr cf fuel l args H = evRound dr cf fuel l args H := by
  unfold roundF evRound
  cases H.get l <;> try rfl
  rename_i st pend tmps ps asg body
  simp only
  cases st <;> try rfl
  cases Nat.beq args.length ps.length <;> try rfl
  simp only
  congr 1
  funext env
  rw [codeF_eq]
  cases evCode dr true cf fuel asg env H with
  | none => rfl
  | some r =>
    obtain ⟨e1, env1, H1⟩ := r
    cases e1 <;> try rfl
    simp only [stF]
    cases H1.get l <;> try rfl
    rename_i st2 p t2 ps2 a2 b2
    cases st2 <;> try rfl
    simp only [frcM_eq]
    rw [codeF_eq]
    cases evCode dr true cf fuel body env1 (H1.put l (.loop .busy p t2 ps2 a2 b2)) with
    | none => rfl
    | some r => rfl
noncomputable def fnF (dr : DregF) (X : CallF) (F : Nat → Option AF) : Nat → CallF
  | 0, _, _, _ => none
  | n + 1, c, args, H => match X c args H with
    | some r => some r
    | none => match c with
      | .f f => match F f with
        | some af => bodyF dr (fnF dr X F n) n af args H
        | none => none
      | .b f => match F f with
        | some af => bodyF dr (fnF dr X F n) n af args H
        | none => none
      | .y l => roundF dr (fnF dr X F n) n l args H
theorem fnF_eq (dr : DregF) (X : CallF) (F : Nat → Option AF) : ∀ n, fnF dr X F n = evFn dr X F n
  | 0 => rfl
  | n + 1 => by
    funext c args H
    have ih := fnF_eq dr X F n
    simp only [fnF, evFn, ih, bodyF_eq, roundF_eq]
    rfl
end Go.Fw
end
section
/- The framework, part V: regions that draw their order: definitions, and what they say. -/
namespace Go.Fw
open Go.RowKit

/-- The operands. -/
def AOp.opds : AOp → List Opd
  | .mv x => [x]
  | .pick c a b => [c, a, b]
  | .alloc .. => []
  | .box _ x => [x]
  | .build _ p => p.map (·.2.2)
  | .buildSl _ _ _ _ p => p.map (·.2)
  | .load _ _ p => [p]
  | .store _ p x => [p, x]
  | .nilc x => [x]
  | .bin _ _ x y => [x, y]
  | .un _ x => [x]
  | .conv _ x => [x]
  | .mkif _ x => [x]
  | .mkfn _ a b => a ++ b
  | .mkmap => []
  | .look _ _ _ m x => [m, x]
  | .upd _ m x v => [m, x, v]
  | .mksl _ _ _ _ l c => [l, c]
  | .slS x a b => x :: (a.toList ++ b.toList)
  | .slV _ x a b c => x :: (a.toList ++ b.toList ++ c.toList)
  | .slA _ _ x a b => x :: (a.toList ++ b.toList)
  | .fldA _ p => [p]
  | .fld _ _ _ x => [x]
  | .ixA _ _ p i => [p, i]
  | .ixV _ x i => [x, i]
  | .ixS x i => [x, i]
  | .ixG _ _ _ x i => [x, i]
  | .ext x _ => [x]
  | .call _ a => a
  | .callv f a => f :: a
  | .lenS x => [x] | .lenV x => [x] | .lenA _ => [] | .lenM x => [x] | .capV x => [x]
  | .app _ _ _ _ s x => [s, x]
  | .copy _ d s => [d, s]
  | .mnmx _ l => l
def pathsOf : List Opd → List Nat
  | [] => []
  | .t p :: r => p.num :: pathsOf r
  | _ :: r => pathsOf r
/-- The temporaries that an operation looks at, by number. -/
def AOper.reads (o : AOper) : List Nat := (match o.g with | some (p, _) => [p.num] | none => []) ++ pathsOf o.op.opds
def AOp.effect (o : AOp) : Bool := match o.kd with | .pure => false | _ => true
/-- Does what it yields depend on memory? -/
def AOp.looks : AOp → Bool
  | .load .. | .conv .str _ | .look .. | .lenM .. | .slV .. | .slA .. => true
  | _ => false
def agree (l : List Nat) (a b : Tr) : Prop := ∀ p : Pth, p.num ∈ l → a.get p = b.get p
theorem opd_agree {a b : Tr} {l : List Opd} (h : agree (pathsOf l) a b) : ∀ x ∈ l, opd a x = opd b x := by
  induction l with
  | nil => intro x hx; cases hx
  | cons y l ih =>
    intro x hx
    cases y with
    | t p =>
      have h1 : agree (pathsOf l) a b := fun q hq => h q (by simp [pathsOf, hq])
      rcases List.mem_cons.1 hx with rfl | hx
      · exact h p (by simp [pathsOf])
      · exact ih h1 x hx
    | _ =>
      rcases List.mem_cons.1 hx with rfl | hx
      · rfl
      · exact ih h x hx
theorem optMap_agree {a b : Tr} (o : Option Opd) (h : ∀ x ∈ o.toList, opd a x = opd b x) : o.map (opd a) = o.map (opd b) := by
  cases o with
  | none => rfl
  | some x => simp [h x (by simp)]
theorem pureA_agree {a b : Tr} (H : Mem) (o : AOp) (h : ∀ x ∈ o.opds, opd a x = opd b x) : pureA a H o = pureA b H o := by
  cases o <;> simp only [AOp.opds] at h <;> try (simp only [List.mem_cons, List.not_mem_nil, or_false, forall_eq_or_imp, forall_eq] at h)
  case build z p =>
    have : (p.map fun (o, n, x) => (o, n, opd a x)) = p.map fun (o, n, x) => (o, n, opd b x) := List.map_congr_left fun q hq => by
      obtain ⟨o, n, x⟩ := q
      simp only [h x (List.mem_map.2 ⟨(o, n, x), hq, rfl⟩)]
    simp only [pureA, this]
  case mkfn f x y =>
    have h1 : x.map (opd a) = x.map (opd b) := List.map_congr_left fun q hq => h q (by simp [hq])
    have h2 : y.map (opd a) = y.map (opd b) := List.map_congr_left fun q hq => h q (by simp [hq])
    simp only [pureA, h1, h2]
  case slS x lo hi => simp only [pureA, h.1, optMap_agree lo fun q hq => h.2 q (by simp at hq; simp [hq]), optMap_agree hi fun q hq => h.2 q (by simp at hq; simp [hq])]
  case slV n x lo hi mx => simp only [pureA, h.1, optMap_agree lo fun q hq => h.2 q (by simp at hq; simp [hq]), optMap_agree hi fun q hq => h.2 q (by simp at hq; simp [hq]), optMap_agree mx fun q hq => h.2 q (by simp at hq; simp [hq])]
  case slA n z x lo hi => simp only [pureA, h.1, optMap_agree lo fun q hq => h.2 q (by simp at hq; simp [hq]), optMap_agree hi fun q hq => h.2 q (by simp at hq; simp [hq])]
  case mnmx m l =>
    have h1 : l.map (opd a) = l.map (opd b) := List.map_congr_left h
    simp only [pureA, h1]
  case conv c x => cases c <;> simp only [pureA, h]
  all_goals simp only [pureA, h]
theorem effA_agree {a b : Tr} (H : Mem) (o : AOp) (h : ∀ x ∈ o.opds, opd a x = opd b x) : effA a H o = effA b H o := by
  cases o <;> simp only [AOp.opds] at h <;> try (simp only [List.mem_cons, List.not_mem_nil, or_false, forall_eq_or_imp, forall_eq] at h)
  case buildSl z n sz t p =>
    have : (p.map fun (k, x) => (k * sz, sz, opd a x)) = p.map fun (k, x) => (k * sz, sz, opd b x) := List.map_congr_left fun q hq => by
      obtain ⟨k, x⟩ := q
      simp only [h x (List.mem_map.2 ⟨(k, x), hq, rfl⟩)]
    simp only [effA, this]
  case conv c x => cases c <;> simp only [effA, h]
  all_goals simp only [effA, h]
theorem callA_agree {a b : Tr} (o : AOp) (h : ∀ x ∈ o.opds, opd a x = opd b x) : callA a o = callA b o := by
  cases o <;> simp only [AOp.opds] at h <;> try rfl
  case call f l =>
    have h1 : l.map (opd a) = l.map (opd b) := List.map_congr_left h
    simp only [callA, h1]
  case callv f l =>
    have h1 : l.map (opd a) = l.map (opd b) := List.map_congr_left fun q hq => h q (by simp [hq])
    simp only [callA, h1, h f (by simp)]
theorem evOp_agree {a b : Tr} (cf : CallF) (H : Mem) (o : AOp) (h : ∀ x ∈ o.opds, opd a x = opd b x) : evOp cf a H o = evOp cf b H o := by
  simp only [evOp, pureA_agree H o h, effA_agree H o h, callA_agree o h]
theorem wantA_agree {a b : Tr} (g : Option (Pth × Bool)) (h : agree (match g with | some (p, _) => [p.num] | none => []) a b) : wantA a g = wantA b g := by
  cases g with
  | none => rfl
  | some pb => obtain ⟨p, b'⟩ := pb; simp only [wantA]; rw [h p (by simp)]
theorem looks_agree {env : Tr} {H H' : Mem} {o : AOp} (hk : o.kd = .pure) (h : o.looks = false) : pureA env H o = pureA env H' o := by
  cases o <;> simp [AOp.looks] at h <;> (try simp [AOp.kd] at hk) <;> try rfl
  case conv c x => cases c <;> simp at h <;> first | rfl | (simp [AOp.kd] at hk)

/-! ### Values held against each other, whole -/
mutual
def sameV : AV → AV → Bool
  | .b a, .b b => a == b
  | .i k a, .i k' b => decide (k = k') && eqI a b
  | .s a, .s b => eqB a b
  | .p a, .p b => decide (a = b)
  | .sl a b c d, .sl a' b' c' d' => Nat.beq a a' && Nat.beq b b' && Nat.beq c c' && decide (d = d')
  | .esl, .esl => true
  | .nsl, .nsl => true
  | .m a, .m b => decide (a = b)
  | .fn f a b, .fn f' a' b' => Nat.beq f f' && sameVs a a' && sameVs b b'
  | .nfn, .nfn => true
  | .ifc t v, .ifc t' v' => Nat.beq t t' && sameV v v'
  | .nif, .nif => true
  | .agg a, .agg b => sameVs a b
  | .tup a, .tup b => sameVs a b
  | .yld a, .yld b => Nat.beq a b
  | _, _ => false
def sameVs : List AV → List AV → Bool
  | [], [] => true
  | a :: x, b :: y => sameV a b && sameVs x y
  | _, _ => false
end
mutual
theorem sameV_eq : ∀ (a b : AV), sameV a b = true → a = b
  | .b a, b, h => by cases b <;> simp [sameV] at h; simp [h]
  | .i k a, b, h => by cases b <;> simp [sameV, eqI_eq] at h; simp [h]
  | .s a, b, h => by cases b <;> simp [sameV, eqB_eq] at h; simp [h]
  | .p a, b, h => by cases b <;> simp [sameV] at h; simp [h]
  | .sl _ _ _ _, b, h => by cases b <;> simp [sameV, beqN] at h; simp [h]
  | .esl, b, h => by cases b <;> simp [sameV] at h; rfl
  | .nsl, b, h => by cases b <;> simp [sameV] at h; rfl
  | .m a, b, h => by cases b <;> simp [sameV] at h; simp [h]
  | .fn f x y, b, h => by
    cases b <;> simp [sameV, beqN] at h
    obtain ⟨⟨h1, h2⟩, h3⟩ := h
    rw [h1, sameVs_eq _ _ h2, sameVs_eq _ _ h3]
  | .nfn, b, h => by cases b <;> simp [sameV] at h; rfl
  | .ifc t v, b, h => by
    cases b <;> simp [sameV, beqN] at h
    rw [h.1, sameV_eq _ _ h.2]
  | .nif, b, h => by cases b <;> simp [sameV] at h; rfl
  | .agg x, b, h => by cases b <;> simp [sameV] at h; rw [sameVs_eq _ _ h]
  | .tup x, b, h => by cases b <;> simp [sameV] at h; rw [sameVs_eq _ _ h]
  | .yld a, b, h => by cases b <;> simp [sameV, beqN] at h; simp [h]
theorem sameVs_eq : ∀ (a b : List AV), sameVs a b = true → a = b
  | [], b, h => by cases b <;> simp [sameVs] at h; rfl
  | a :: x, b, h => by
    cases b <;> simp [sameVs] at h
    rw [sameV_eq _ _ h.1, sameVs_eq _ _ h.2]
end
/-! ### The evaluation -/
/-- The region in its text's order: what each operation yields; the memories behind its effects; the temporaries, the memory. -/
def dgo (cf : CallF) : List AOper → Tr → Mem → Option (List AV × List Mem × Tr × Mem)
  | [], env, H => some ([], [], env, H)
  | o :: r, env, H =>
    match wantA env o.g with
    | true => match evOp cf env H o.op with
      | some (v, H') => frcV o.op.deep v fun v => frcM H' fun H' => putA env o.dst v fun env => match dgo cf r env H' with
        | some (vs, Cs, e, h) => some (v :: vs, (bif o.op.effect then H' :: Cs else Cs), e, h)
        | none => none
      | none => none
    | false => putA env o.dst undefA fun env => match dgo cf r env H with
      | some (vs, Cs, e, h) => some (undefA :: vs, (bif o.op.effect then H :: Cs else Cs), e, h)
      | none => none
/-- The effects' numbers. -/
def effs : List AOper → Nat → List Nat
  | [], _ => []
  | o :: r, i => bif o.op.effect then i :: effs r (i + 1) else effs r (i + 1)
/-- What the order must give: effects one behind the other; what is looked at comes ahead; each temporary is written once. -/
def chainOK (before : List (List Nat)) : List Nat → List Nat → Bool
  | _, [] => true
  | done, e :: r => done.all (fun d => memN d (before.getD e [])) && chainOK before (e :: done) r
def writers : List AOper → Nat → List (Nat × Nat)
  | [], _ => []
  | o :: r, i => match o.dst with
    | some p => (p.num, i) :: writers r (i + 1)
    | none => writers r (i + 1)
def onceOK : List (Nat × Nat) → Bool
  | [] => true
  | (p, _) :: r => r.all (fun q => !Nat.beq q.1 p) && onceOK r
def readsOK (before : List (List Nat)) (ws : List (Nat × Nat)) : List AOper → Nat → Bool
  | [], _ => true
  | o :: r, i => o.reads.all (fun p => ws.all fun w => !Nat.beq w.1 p || memN w.2 (before.getD i [])) && (before.getD i []).all (fun j => Nat.blt j i) && readsOK before ws r (i + 1)
def statOK (al : List AOper) (before : List (List Nat)) : Bool := chainOK before [] (effs al 0) && onceOK (writers al 0) && readsOK before (writers al 0) al 0
/-- So many effects must have come; so many may have. -/
def lowE (bi : List Nat) : List Nat → Nat → Nat → Nat
  | [], _, acc => acc
  | e :: r, k, acc => lowE bi r (k + 1) (bif memN e bi then k + 1 else acc)
def highE (before : List (List Nat)) (i : Nat) : List Nat → Nat → Nat
  | [], k => k
  | e :: r, k => bif memN i (before.getD e []) then k else highE before i r (k + 1)
/-- What looks at memory finds the same, whenever it comes. -/
def floatOK (before : List (List Nat)) (es : List Nat) (env : Tr) (Cs : List Mem) : List AOper → List AV → Nat → Bool
  | [], _, _ => true
  | o :: r, v :: vs, i => (bif o.op.looks && !o.op.effect && wantA env o.g then
      (((Cs.drop (lowE (before.getD i []) es 0 0)).take (highE before i es 0 + 1 - lowE (before.getD i []) es 0 0)).all fun H => match pureA env H o.op with | some u => sameV u v | none => false)
      else true) && floatOK before es env Cs r vs (i + 1)
  | _ :: _, [], _ => false
def drA : DregF := fun cf al before env H =>
  match statOK al before with
  | true => match dgo cf al env H with
    | some (vs, Cs, env', H') => match floatOK before (effs al 0) env' (H :: Cs) al vs 0 with
      | true => some (env', H')
      | false => none
    | none => none
  | false => none
end Go.Fw
end
section
/- The framework, part W: a region that draws its order does what its text's order does. -/
namespace Go.Fw
open Go.RowKit

def nE (l : List AOper) : Nat := (l.filter (·.op.effect)).length
theorem effs_get : ∀ (al : List AOper) (i0 j : Nat) (o : AOper), al[j]? = some o → o.op.effect = true → (effs al i0)[nE (al.take j)]? = some (i0 + j)
  | [], i0, j, o, h, _ => by simp at h
  | x :: al, i0, 0, o, h, he => by
    simp at h; subst h
    simp [effs, nE, he]
  | x :: al, i0, j + 1, o, h, he => by
    have ih := effs_get al (i0 + 1) j o (by simpa using h) he
    simp only [effs, List.take_succ_cons, nE, List.filter_cons]
    cases hx : x.op.effect with
    | true => simp only [cond_true, if_true, List.length_cons, List.getElem?_cons_succ]; rw [show i0 + (j + 1) = i0 + 1 + j by omega]; exact ih
    | false => simp only [cond_false, Bool.false_eq_true, if_false]; rw [show i0 + (j + 1) = i0 + 1 + j by omega]; exact ih
theorem effs_of : ∀ (al : List AOper) (i0 k e : Nat), (effs al i0)[k]? = some e → ∃ j o, e = i0 + j ∧ al[j]? = some o ∧ o.op.effect = true ∧ nE (al.take j) = k
  | [], i0, k, e, h => by simp [effs] at h
  | x :: al, i0, k, e, h => by
    simp only [effs] at h
    cases hx : x.op.effect with
    | true =>
      simp only [hx, cond_true] at h
      cases k with
      | zero => simp at h; exact ⟨0, x, by omega, rfl, hx, rfl⟩
      | succ k =>
        obtain ⟨j, o, h1, h2, h3, h4⟩ := effs_of al (i0 + 1) k e (by simpa using h)
        exact ⟨j + 1, o, by omega, by simpa using h2, h3, by simpa [nE, hx] using h4⟩
    | false =>
      simp only [hx, cond_false] at h
      obtain ⟨j, o, h1, h2, h3, h4⟩ := effs_of al (i0 + 1) k e h
      exact ⟨j + 1, o, by omega, by simpa using h2, h3, by simpa [nE, hx] using h4⟩
theorem effs_length (al : List AOper) (i0 : Nat) : (effs al i0).length = nE al := by
  induction al generalizing i0 with
  | nil => rfl
  | cons x al ih => cases hx : x.op.effect <;> simp [effs, nE, hx] <;> exact ih _
theorem nE_succ {al : List AOper} {i : Nat} {o : AOper} (h : al[i]? = some o) : nE (al.take (i + 1)) = nE (al.take i) + (if o.op.effect then 1 else 0) := by
  rw [List.take_add_one, h]
  simp only [nE, Option.toList_some, List.filter_append, List.length_append]
  cases he : o.op.effect <;> simp [he]
/-- What the text's order gives. -/
theorem dgo_spec (cf : CallF) : ∀ (al : List AOper) (env : Tr) (H : Mem) (vs : List AV) (Cs : List Mem) (EA : Tr) (He : Mem), dgo cf al env H = some (vs, Cs, EA, He) →
    vs.length = al.length ∧ Cs.length = nE al ∧ (H :: Cs)[nE al]? = some He ∧
    (∀ p, (∀ (j : Nat) (o : AOper), al[j]? = some o → o.dst ≠ some p) → EA.get p = env.get p) ∧
    (∀ (j : Nat) (o : AOper) (p : Pth), al[j]? = some o → o.dst = some p → (∀ (j' : Nat) (o' : AOper), j < j' → al[j']? = some o' → o'.dst ≠ some p) → ∃ v, vs[j]? = some v ∧ EA.get p = v) ∧
    (∀ (i : Nat) (o : AOper), al[i]? = some o → ∃ E v Hi Hi', vs[i]? = some v ∧ (H :: Cs)[nE (al.take i)]? = some Hi ∧ (H :: Cs)[nE (al.take (i + 1))]? = some Hi' ∧
      (∀ p, (∀ (j : Nat) (o' : AOper), i ≤ j → al[j]? = some o' → o'.dst ≠ some p) → E.get p = EA.get p) ∧
      (wantA E o.g = true → evOp cf E Hi o.op = some (v, Hi')) ∧ (wantA E o.g = false → v = undefA ∧ Hi' = Hi)) := by
  intro al
  induction al with
  | nil =>
    intro env H vs Cs EA He h
    simp [dgo] at h
    obtain ⟨rfl, rfl, rfl, rfl⟩ := h
    exact ⟨rfl, rfl, rfl, fun _ _ => rfl, fun j o p h => by simp at h, fun i o h => by simp at h⟩
  | cons o r ih =>
    intro env H vs Cs EA He h
    -- both arms alike
    have key : ∀ (v : AV) (H1 : Mem) (vs1 : List AV) (Cs1 : List Mem), dgo cf r (putE env o.dst v) H1 = some (vs1, Cs1, EA, He) → vs = v :: vs1 → Cs = (bif o.op.effect then H1 :: Cs1 else Cs1) → (o.op.effect = false → H1 = H) →
        (wantA env o.g = true → evOp cf env H o.op = some (v, H1)) → (wantA env o.g = false → v = undefA ∧ H1 = H) →
        vs.length = (o :: r).length ∧ Cs.length = nE (o :: r) ∧ (H :: Cs)[nE (o :: r)]? = some He ∧
        (∀ p, (∀ (j : Nat) (o' : AOper), (o :: r)[j]? = some o' → o'.dst ≠ some p) → EA.get p = env.get p) ∧
        (∀ (j : Nat) (o' : AOper) (p : Pth), (o :: r)[j]? = some o' → o'.dst = some p → (∀ (j' : Nat) (o'' : AOper), j < j' → (o :: r)[j']? = some o'' → o''.dst ≠ some p) → ∃ v, vs[j]? = some v ∧ EA.get p = v) ∧
        (∀ (i : Nat) (o' : AOper), (o :: r)[i]? = some o' → ∃ E v Hi Hi', vs[i]? = some v ∧ (H :: Cs)[nE ((o :: r).take i)]? = some Hi ∧ (H :: Cs)[nE ((o :: r).take (i + 1))]? = some Hi' ∧
          (∀ p, (∀ (j : Nat) (o'' : AOper), i ≤ j → (o :: r)[j]? = some o'' → o''.dst ≠ some p) → E.get p = EA.get p) ∧
          (wantA E o'.g = true → evOp cf E Hi o'.op = some (v, Hi')) ∧ (wantA E o'.g = false → v = undefA ∧ Hi' = Hi)) := by
      intro v H1 vs1 Cs1 hd hvs hCs hpure hw1 hw2
      obtain ⟨g1, g2, g3, g4, g5, g6⟩ := ih _ _ _ _ _ _ hd
      have shift : ∀ k, (H :: Cs)[(if o.op.effect then 1 else 0) + k]? = (H1 :: Cs1)[k]? := fun k => by
        cases he : o.op.effect with
        | true => rw [hCs, he]; simp [Nat.add_comm 1 k]
        | false => rw [hCs, he, hpure he]; simp
      have hn : ∀ l : List AOper, nE (o :: l) = (if o.op.effect then 1 else 0) + nE l := fun l => by
        cases he : o.op.effect <;> simp [nE, he, Nat.add_comm]
      have getp : ∀ p, o.dst ≠ some p → (putE env o.dst v).get p = env.get p := fun p hp => by
        cases hdst : o.dst with
        | none => rfl
        | some d => exact Tr.get_set_ne _ _ _ _ (fun e => hp (by rw [hdst, e]))
      refine ⟨by rw [hvs]; simp [g1], ?_, ?_, ?_, ?_, ?_⟩
      · rw [hn, hCs]; cases o.op.effect <;> simp [g2, Nat.add_comm]
      · rw [hn, shift]; exact g3
      · intro p hp
        rw [g4 p (fun j o' hj => hp (j + 1) o' (by simpa using hj)), getp p (hp 0 o rfl)]
      · intro j o' p hj hdst hlast
        cases j with
        | zero =>
          simp at hj; subst hj
          refine ⟨v, by rw [hvs]; rfl, ?_⟩
          rw [g4 p (fun j o'' hj2 => hlast (j + 1) o'' (by omega) (by simpa using hj2)), hdst]
          exact Tr.get_set_same _ _ _
        | succ j =>
          obtain ⟨v', hv', he⟩ := g5 j o' p (by simpa using hj) hdst (fun j' o'' hlt hj' => hlast (j' + 1) o'' (by omega) (by simpa using hj'))
          exact ⟨v', by rw [hvs]; simpa using hv', he⟩
      · intro i o' hi
        cases i with
        | zero =>
          simp at hi; subst hi
          refine ⟨env, v, H, H1, by rw [hvs]; rfl, rfl, ?_, ?_, hw1, hw2⟩
          · have := hn []
            simp only [List.take_succ_cons, List.take_zero]
            rw [this]; have := shift 0; simpa [nE] using this
          · intro p hp
            rw [g4 p (fun j o'' hj2 => hp (j + 1) o'' (by omega) (by simpa using hj2)), getp p (hp 0 o (by omega) rfl)]
        | succ i =>
          obtain ⟨E, v', Hi, Hi', k1, k2, k3, k4, k5, k6⟩ := g6 i o' (by simpa using hi)
          refine ⟨E, v', Hi, Hi', by rw [hvs]; simpa using k1, ?_, ?_, ?_, k5, k6⟩
          · rw [List.take_succ_cons, hn, shift]; exact k2
          · rw [List.take_succ_cons, hn, shift]; exact k3
          · intro p hp
            exact k4 p (fun j o'' hle hj => hp (j + 1) o'' (by omega) (by simpa using hj))
    simp only [dgo] at h
    split at h
    · rename_i hwant
      split at h <;> try (simp at h; done)
      rename_i v H1 hop
      rw [frcV_eq, frcM_eq, putA_eq] at h
      split at h <;> simp at h
      rename_i vs1 Cs1 e1 h1 hd
      obtain ⟨rfl, rfl, rfl, rfl⟩ := h
      refine key v H1 vs1 Cs1 hd rfl rfl (fun he => ?_) (fun _ => hop) (fun e => by rw [hwant] at e; cases e)
      unfold AOp.effect at he
      unfold evOp at hop
      split at he
      · rename_i hk
        rw [hk] at hop
        simp only at hop
        split at hop <;> simp at hop
        exact hop.2.symm
      · cases he
    · rename_i hwant
      rw [putA_eq] at h
      split at h <;> simp at h
      rename_i vs1 Cs1 e1 h1 hd
      obtain ⟨rfl, rfl, rfl, rfl⟩ := h
      exact key undefA H vs1 Cs1 hd rfl rfl (fun _ => rfl) (fun e => by rw [hwant] at e; cases e) (fun _ => ⟨rfl, rfl⟩)
theorem lowE_le (bi : List Nat) : ∀ (es : List Nat) (k0 acc c : Nat), (∀ k e, es[k]? = some e → e ∈ bi → k0 + k < c) → acc ≤ c → lowE bi es k0 acc ≤ c
  | [], k0, acc, c, _, ha => ha
  | e :: es, k0, acc, c, h, ha => by
    simp only [lowE]
    refine lowE_le bi es (k0 + 1) _ c (fun k e' hk he => by have := h (k + 1) e' (by simpa using hk) he; omega) ?_
    cases hm : memN e bi with
    | true => have := h 0 e rfl ((memN_iff _ _).1 hm); simp only [cond_true]; omega
    | false => exact ha
theorem le_highE (before : List (List Nat)) (i : Nat) : ∀ (es : List Nat) (k0 c : Nat), (∀ k e, es[k]? = some e → k0 + k < c → i ∉ before.getD e []) → c ≤ k0 + es.length → c ≤ highE before i es k0
  | [], k0, c, _, hc => by simpa [highE] using hc
  | e :: es, k0, c, h, hc => by
    simp only [highE]
    cases hm : memN i (before.getD e []) with
    | true =>
      simp only [cond_true]
      rcases Nat.lt_or_ge k0 c with hlt | hge
      · exact absurd ((memN_iff _ _).1 hm) (h 0 e rfl (by omega))
      · omega
    | false => exact le_highE before i es (k0 + 1) c (fun k e' hk hlt => h (k + 1) e' (by simpa using hk) (by omega)) (by simp at hc; omega)
theorem floatOK_get (before : List (List Nat)) (es : List Nat) (env : Tr) (Cs : List Mem) : ∀ (al : List AOper) (vs : List AV) (i0 : Nat), floatOK before es env Cs al vs i0 = true → ∀ (j : Nat) (o : AOper) (v : AV), al[j]? = some o → vs[j]? = some v → o.op.looks = true → o.op.effect = false → wantA env o.g = true →
    ∀ (c : Nat) (H : Mem), lowE (before.getD (i0 + j) []) es 0 0 ≤ c → c ≤ highE before (i0 + j) es 0 → Cs[c]? = some H → pureA env H o.op = some v
  | [], vs, i0, h, j, o, v, hj, _, _, _, _ => by simp at hj
  | o0 :: al, [], i0, h, j, o, v, hj, hv, _, _, _ => by simp at hv
  | o0 :: al, v0 :: vs, i0, h, j, o, v, hj, hv, hl, he, hw => by
    simp only [floatOK, Bool.and_eq_true] at h
    obtain ⟨h1, h2⟩ := h
    cases j with
    | zero =>
      simp at hj hv; subst hj hv
      intro c H hlo hhi hc
      simp only [hl, he, hw, Bool.not_false, Bool.and_self, cond_true] at h1
      have hmem : H ∈ ((Cs.drop (lowE (before.getD i0 []) es 0 0)).take (highE before i0 es 0 + 1 - lowE (before.getD i0 []) es 0 0)) := by
        refine List.mem_of_getElem? (i := c - lowE (before.getD i0 []) es 0 0) ?_
        simp only [Nat.add_zero] at hlo hhi
        rw [List.getElem?_take_of_lt (by omega), List.getElem?_drop]
        rw [show lowE (before.getD i0 []) es 0 0 + (c - lowE (before.getD i0 []) es 0 0) = c by omega]; exact hc
      have := List.all_eq_true.1 h1 H hmem
      split at this
      · rename_i u hu
        rw [hu, sameV_eq _ _ this]
      · cases this
    | succ j =>
      have := floatOK_get before es env Cs al vs (i0 + 1) h2 j o v (by simpa using hj) (by simpa using hv) hl he hw
      rw [show i0 + 1 + j = i0 + (j + 1) by omega] at this
      exact this
theorem chainOK_get (before : List (List Nat)) : ∀ (es done : List Nat), chainOK before done es = true → ∀ (k e : Nat), es[k]? = some e → (∀ d ∈ done, d ∈ before.getD e []) ∧ ∀ (k' e' : Nat), k' < k → es[k']? = some e' → e' ∈ before.getD e []
  | [], done, h, k, e, hk => by simp at hk
  | x :: es, done, h, k, e, hk => by
    simp only [chainOK, Bool.and_eq_true, List.all_eq_true] at h
    obtain ⟨h1, h2⟩ := h
    cases k with
    | zero =>
      simp at hk; subst hk
      exact ⟨fun d hd => (memN_iff _ _).1 (h1 d hd), fun k' e' hlt => by omega⟩
    | succ k =>
      obtain ⟨g1, g2⟩ := chainOK_get before es (x :: done) h2 k e (by simpa using hk)
      refine ⟨fun d hd => g1 d (by simp [hd]), fun k' e' hlt hk' => ?_⟩
      cases k' with
      | zero => simp at hk'; subst hk'; exact g1 x (by simp)
      | succ k' => exact g2 k' e' (by omega) (by simpa using hk')
theorem writers_mem : ∀ (al : List AOper) (i0 j : Nat) (o : AOper) (p : Pth), al[j]? = some o → o.dst = some p → (p.num, i0 + j) ∈ writers al i0
  | [], i0, j, o, p, h, _ => by simp at h
  | x :: al, i0, 0, o, p, h, hd => by simp at h; subst h; simp [writers, hd]
  | x :: al, i0, j + 1, o, p, h, hd => by
    have := writers_mem al (i0 + 1) j o p (by simpa using h) hd
    rw [show i0 + 1 + j = i0 + (j + 1) by omega] at this
    simp only [writers]
    split <;> simp [this]
theorem num_inj : ∀ (a b : Pth), a.num = b.num → a = b
  | .h, .h, _ => rfl
  | .h, .l p, h => by simp [Pth.num] at h
  | .h, .r p, h => by simp [Pth.num] at h
  | .l p, .h, h => by simp [Pth.num] at h
  | .r p, .h, h => by simp [Pth.num] at h
  | .l p, .l q, h => by rw [num_inj p q (by simp [Pth.num] at h; omega)]
  | .r p, .r q, h => by rw [num_inj p q (by simp [Pth.num] at h; omega)]
  | .l p, .r q, h => by simp [Pth.num] at h; omega
  | .r p, .l q, h => by simp [Pth.num] at h; omega
theorem once_get : ∀ (al : List AOper) (i0 : Nat), onceOK (writers al i0) = true → ∀ (j j' : Nat) (o o' : AOper) (p : Pth), al[j]? = some o → al[j']? = some o' → o.dst = some p → o'.dst = some p → j = j'
  | [], i0, h, j, j', o, o', p, h1, _, _, _ => by simp at h1
  | x :: al, i0, h, j, j', o, o', p, h1, h2, d1, d2 => by
    have htail : onceOK (writers al (i0 + 1)) = true := by
      simp only [writers] at h
      split at h
      · simp only [onceOK, Bool.and_eq_true] at h; exact h.2
      · exact h
    have hhead : ∀ (q : Pth), x.dst = some q → ∀ (k : Nat) (o2 : AOper), al[k]? = some o2 → o2.dst ≠ some q := fun q hq k o2 hk hd => by
      simp only [writers, hq] at h
      simp only [onceOK, Bool.and_eq_true, List.all_eq_true] at h
      have := h.1 _ (writers_mem al (i0 + 1) k o2 q hk hd)
      simp [beqN] at this
    cases j with
    | zero =>
      simp at h1; subst h1
      cases j' with
      | zero => rfl
      | succ j' => exact absurd d2 (hhead p d1 j' o' (by simpa using h2))
    | succ j =>
      cases j' with
      | zero => simp at h2; subst h2; exact absurd d1 (hhead p d2 j o (by simpa using h1))
      | succ j' => rw [once_get al (i0 + 1) htail j j' o o' p (by simpa using h1) (by simpa using h2) d1 d2]
theorem reads_get (before : List (List Nat)) (ws : List (Nat × Nat)) : ∀ (al : List AOper) (i0 : Nat), readsOK before ws al i0 = true → ∀ (j : Nat) (o : AOper), al[j]? = some o → (∀ p ∈ o.reads, ∀ w ∈ ws, w.1 = p → w.2 ∈ before.getD (i0 + j) []) ∧ ∀ k ∈ before.getD (i0 + j) [], k < i0 + j
  | [], i0, h, j, o, hj => by simp at hj
  | x :: al, i0, h, j, o, hj => by
    simp only [readsOK, Bool.and_eq_true, List.all_eq_true] at h
    obtain ⟨⟨h1, h2⟩, h3⟩ := h
    cases j with
    | zero =>
      simp at hj; subst hj
      refine ⟨fun p hp w hw he => ?_, fun k hk => ?_⟩
      · have := h1 p hp w hw
        simp [beqN, he] at this
        exact (memN_iff _ _).1 this
      · have := h2 k hk
        rw [bltN] at this; simpa using this
    | succ j =>
      have := reads_get before ws al (i0 + 1) h3 j o (by simpa using hj)
      rw [show i0 + 1 + j = i0 + (j + 1) by omega] at this
      exact this
/-! ### The closure of 'before' -/
theorem beforeL_prefix : ∀ (l : List Oper) (acc : List (List Nat)), ∃ r, beforeL l acc = acc ++ r
  | [], acc => ⟨[], by simp [beforeL]⟩
  | o :: l, acc => by
    obtain ⟨r, h⟩ := beforeL_prefix l (acc ++ [dedupN ((o.after.toList.filter (Region.binds .any)).flatMap fun e => e.on :: (acc.getD e.on []))])
    exact ⟨_, by rw [beforeL, h, List.append_assoc]⟩
theorem beforeL_get : ∀ (l : List Oper) (acc : List (List Nat)) (i : Nat) (o : Oper), l[i]? = some o → ∀ j ∈ (beforeL l acc).getD (acc.length + i) [], ∃ e ∈ o.after.toList, Region.binds .any e = true ∧ (j = e.on ∨ j ∈ (beforeL l acc).getD e.on [])
  | [], acc, i, o, h => by simp at h
  | x :: l, acc, 0, o, h => by
    simp at h; subst h
    intro j hj
    obtain ⟨r, hr⟩ := beforeL_prefix l (acc ++ [dedupN ((x.after.toList.filter (Region.binds .any)).flatMap fun e => e.on :: (acc.getD e.on []))])
    simp only [beforeL] at hj ⊢
    rw [hr] at hj ⊢
    simp only [List.append_assoc, List.singleton_append, Nat.add_zero] at hj ⊢
    rw [List.getD_eq_getElem?_getD, List.getElem?_append_right (Nat.le_refl _)] at hj
    simp only [Nat.sub_self, List.getElem?_cons_zero, Option.getD_some, mem_dedupN, List.mem_flatMap, List.mem_filter, List.mem_cons] at hj
    obtain ⟨e, ⟨he, hb⟩, hj⟩ := hj
    refine ⟨e, he, hb, ?_⟩
    rcases hj with hj | hj
    · exact .inl hj
    · refine .inr ?_
      rw [List.getD_eq_getElem?_getD] at hj ⊢
      cases hx : acc[e.on]? with
      | none => rw [hx] at hj; simp at hj
      | some y =>
        rw [hx] at hj
        rw [List.getElem?_append_left (List.getElem?_eq_some_iff.1 hx).1, hx]; exact hj
  | x :: l, acc, i + 1, o, h => by
    intro j hj
    simp only [beforeL] at hj ⊢
    have := beforeL_get l (acc ++ [dedupN ((x.after.toList.filter (Region.binds .any)).flatMap fun e => e.on :: (acc.getD e.on []))]) i o (by simpa using h) j (by
      simp only [List.length_append, List.length_singleton]
      rw [show acc.length + 1 + i = acc.length + (i + 1) by omega]; exact hj)
    exact this
theorem beforeL_direct : ∀ (l : List Oper) (acc : List (List Nat)) (i : Nat) (o : Oper), l[i]? = some o → ∀ e ∈ o.after.toList, Region.binds .any e = true → e.on ∈ (beforeL l acc).getD (acc.length + i) []
  | [], acc, i, o, h => by simp at h
  | x :: l, acc, 0, o, h => by
    simp at h; subst h
    intro e he hb
    obtain ⟨r, hr⟩ := beforeL_prefix l (acc ++ [dedupN ((x.after.toList.filter (Region.binds .any)).flatMap fun e => e.on :: (acc.getD e.on []))])
    simp only [beforeL]
    rw [hr]
    simp only [List.append_assoc, List.singleton_append, Nat.add_zero]
    rw [List.getD_eq_getElem?_getD, List.getElem?_append_right (Nat.le_refl _)]
    simp only [Nat.sub_self, List.getElem?_cons_zero, Option.getD_some, mem_dedupN, List.mem_flatMap, List.mem_filter, List.mem_cons]
    exact ⟨e, ⟨he, hb⟩, .inl rfl⟩
  | x :: l, acc, i + 1, o, h => by
    intro e he hb
    simp only [beforeL]
    have := beforeL_direct l (acc ++ [dedupN ((x.after.toList.filter (Region.binds .any)).flatMap fun e => e.on :: (acc.getD e.on []))]) i o (by simpa using h) e he hb
    simp only [List.length_append, List.length_singleton] at this
    rw [show acc.length + 1 + i = acc.length + (i + 1) by omega] at this; exact this
end Go.Fw
end
section
/- The framework, part X: a region that draws its order does what its text's order does: the theorem. -/
namespace Go.Fw
open Go.RowKit

section
variable {P : Program} {B : Bd} {w0 : World}
theorem getD_set (l : Array Bool) (i j : Nat) (hi : i < l.size) : (l.setIfInBounds i true).getD j false = if j = i then true else l.getD j false := by
  simp only [Array.getD_eq_getD_getElem?, Array.getElem?_setIfInBounds]
  by_cases h : i = j
  · subst h; simp [hi]
  · simp [h, Ne.symm h]
theorem dreg_ok (hm : P.follows .mixedOrders = true) : DregOK P drA := by
  intro cf hcf0 B w0 N rd r n id ops al a env H w μ env' H' Q hal hr hg he hd hv hQ
  have hcf := hcf0 B w0
  refine wpIn_region_any hm ?_
  unfold drA at hv
  split at hv <;> try (simp at hv; done)
  rename_i hstat
  split at hv <;> try (simp at hv; done)
  rename_i vs Cs EA He hdgo
  split at hv <;> simp at hv
  rename_i hfl
  obtain ⟨rfl, rfl⟩ := hv
  simp only [statOK, Bool.and_eq_true] at hstat
  obtain ⟨⟨hchain, honce⟩, hreads⟩ := hstat
  obtain ⟨g1, g2, g3, g4, g5, g6⟩ := dgo_spec cf al env H vs Cs EA He hdgo
  obtain ⟨m1, m2⟩ := mapO_get hal
  simp only [Array.length_toList] at m1
  generalize hbe : beforeL ops.toList [] = before at *
  generalize hes : effs al 0 = es at *
  have esl : es.length = nE al := by rw [← hes]; exact effs_length al 0
  have beg : ∀ (i : Nat) (o : Oper), ops[i]? = some o → ∀ j ∈ before.getD i [], ∃ e ∈ o.after.toList, Region.binds .any e = true ∧ (j = e.on ∨ j ∈ before.getD e.on []) := fun i o ho j hj => by
    have := beforeL_get ops.toList [] i o (by rw [Array.getElem?_toList]; exact ho) j (by rw [hbe]; simpa using hj)
    rwa [hbe] at this
  have bed : ∀ (i : Nat) (o : Oper), ops[i]? = some o → ∀ e ∈ o.after.toList, Region.binds .any e = true → e.on ∈ before.getD i [] := fun i o ho e he hb => by
    have := beforeL_direct ops.toList [] i o (by rw [Array.getElem?_toList]; exact ho) e he hb
    rw [hbe] at this; simpa using this
  have alg : ∀ (i : Nat) (o : Oper), ops[i]? = some o → ∃ ao, compOper P N ops o = some ao ∧ al[i]? = some ao := fun i o ho => m2 i o (by rw [Array.getElem?_toList]; exact ho)
  have rdg : ∀ (i : Nat) (o : AOper), al[i]? = some o → (∀ p ∈ o.reads, ∀ w ∈ writers al 0, w.1 = p → w.2 ∈ before.getD i []) ∧ ∀ k ∈ before.getD i [], k < i := fun i o ho => by
    have := reads_get before (writers al 0) al 0 hreads i o ho
    simpa using this
  have once : ∀ (j j' : Nat) (o o' : AOper) (p : Pth), al[j]? = some o → al[j']? = some o' → o.dst = some p → o'.dst = some p → j = j' := once_get al 0 honce
  have allt : ∀ i, i < ops.size → ∃ o, ops[i]? = some o := fun i hi => ⟨ops[i], Array.getElem?_eq_getElem hi⟩
  -- the main induction
  have key : ∀ (fuel : Nat) (rem : List Nat) (listed : Array Bool) (a1 : Act) (w1 : World) (c : Nat) (μ1 : Mp) (E : Tr) (Hc : Mem), rem.length = fuel → (∀ j, j ∈ rem ↔ j < ops.size ∧ listed.getD j false = false) → rem.Nodup → listed.size = ops.size →
      (H :: Cs)[c]? = some Hc → μ.le μ1 → Rep P B w0 μ1 Hc w1 → ER μ1 N E a1.tmps → DR rd μ1 Hc a1 →
      (∀ i, listed.getD i false = true → ∀ j ∈ before.getD i [], listed.getD j false = true) →
      (∀ (k e : Nat), es[k]? = some e → (listed.getD e false = true ↔ k < c)) → c ≤ es.length →
      (∀ (j : Nat) (o : AOper) (p : Pth), listed.getD j false = true → al[j]? = some o → o.dst = some p → E.get p = EA.get p) →
      (∀ p, (∀ (j : Nat) (o : AOper), listed.getD j false = true → al[j]? = some o → o.dst ≠ some p) → E.get p = env.get p) →
      wpAnyIn (Fr r) n P .any ops Q fuel listed a1 w1 := by
    intro fuel
    induction fuel with
    | zero =>
      intro rem listed a1 w1 c μ1 E Hc hrl hrm hnd hsz hC hm1 hr1 he1 hd1 hcl hes1 hcle hE1 hE2
      have hall : ∀ j, j < ops.size → listed.getD j false = true := fun j hj => by
        cases hx : listed.getD j false with
        | true => rfl
        | false =>
          have := (hrm j).2 ⟨hj, hx⟩
          rw [List.eq_nil_of_length_eq_zero hrl] at this; cases this
      have fin : Q .normal a1 w1 := by
        have hc : c = es.length := by
          rcases Nat.lt_or_ge c es.length with hlt | hge
          · have h1 := (hes1 c es[c] (List.getElem?_eq_getElem hlt)).1 (by
              obtain ⟨j, o, e1, e2, _⟩ := effs_of al 0 c es[c] (by rw [hes]; exact List.getElem?_eq_getElem hlt)
              refine hall _ ?_
              have := (List.getElem?_eq_some_iff.1 e2).1
              rw [e1]; omega)
            omega
          · omega
        rw [hc, esl, g3] at hC
        injection hC with hC; subst hC
        refine hQ a1 w1 μ1 hm1 hr1 ⟨he1.1, fun t => ?_⟩ hd1
        have : E.get (pth t) = EA.get (pth t) := by
          by_cases hw : ∃ (j : Nat) (o : AOper), al[j]? = some o ∧ o.dst = some (pth t)
          · obtain ⟨j, o, h1, h2⟩ := hw
            have hj := (List.getElem?_eq_some_iff.1 h1).1
            exact hE1 j o _ (hall j (by omega)) h1 h2
          · have hno : ∀ (j : Nat) (o : AOper), al[j]? = some o → o.dst ≠ some (pth t) := fun j o h1 h2 => hw ⟨j, o, h1, h2⟩
            rw [hE2 _ (fun j o _ h1 => hno j o h1), g4 _ hno]
        rw [← this]; exact he1.2 t
      refine ⟨?_, fin⟩
      unfold Region.ready
      rw [List.filter_eq_nil_iff]
      intro i hi
      have hi2 := List.mem_range.1 hi
      have h1 := hall i hi2
      have : listed.getD i true = true := by
        rw [Array.getD_eq_getD_getElem?] at h1 ⊢
        rw [Array.getElem?_eq_getElem (by omega)] at h1 ⊢
        exact h1
      simp [this]
    | succ fuel ih =>
      intro rem listed a1 w1 c μ1 E Hc hrl hrm hnd hsz hC hm1 hr1 he1 hd1 hcl hes1 hcle hE1 hE2
      refine ⟨fun hnil => ?_, fun i hi => ?_⟩
      · -- nothing ready: all is listed: but one is not
        exfalso
        have hall : ∀ i, i < ops.size → listed.getD i false = true := fun i => by
          induction i using Nat.strongRecOn with
          | _ i ihi =>
            intro hi
            cases hx : listed.getD i false with
            | true => rfl
            | false =>
              exfalso
              obtain ⟨o, ho⟩ := allt i hi
              have hnot : i ∉ Region.ready .any ops listed := by rw [hnil]; simp
              apply hnot
              unfold Region.ready
              rw [List.mem_filter]
              refine ⟨List.mem_range.2 hi, ?_⟩
              have h1 : listed.getD i true = false := by
                rw [Array.getD_eq_getD_getElem?] at hx ⊢
                rw [Array.getElem?_eq_getElem (by omega)] at hx ⊢
                exact hx
              obtain ⟨ao, _, hao⟩ := alg i o ho
              simp only [h1, Bool.not_false, ho, Option.map_some, Option.getD_some, Bool.true_and]
              rw [Array.all_eq_true_iff_forall_mem]
              intro e hee
              cases hb : Region.binds .any e with
              | false => rfl
              | true =>
                have hmem := bed i o ho e (Array.mem_toList_iff.2 hee) hb
                have hlt := (rdg i ao hao).2 _ hmem
                simp [ihi e.on hlt (by omega)]
        have : ∃ j, j ∈ rem := by
          cases rem with
          | nil => simp at hrl
          | cons j _ => exact ⟨j, by simp⟩
        obtain ⟨j, hj⟩ := this
        obtain ⟨h1, h2⟩ := (hrm j).1 hj
        rw [hall j h1] at h2; cases h2
      · -- one that is ready
        unfold Region.ready at hi
        rw [List.mem_filter] at hi
        obtain ⟨hir, hcond⟩ := hi
        have hi := List.mem_range.1 hir
        obtain ⟨o, ho⟩ := allt i hi
        obtain ⟨ao, hao, hali⟩ := alg i o ho
        simp only [ho, Option.map_some, Option.getD_some, Bool.and_eq_true, Bool.not_eq_true'] at hcond
        obtain ⟨hun, hafter⟩ := hcond
        have hunl : listed.getD i false = false := by
          rw [Array.getD_eq_getD_getElem?] at hun ⊢
          rw [Array.getElem?_eq_getElem (by omega)] at hun ⊢
          exact hun
        rw [Array.all_eq_true_iff_forall_mem] at hafter
        have hbef : ∀ j ∈ before.getD i [], listed.getD j false = true := fun j hj => by
          obtain ⟨e, he1, he2, he3⟩ := beg i o ho j hj
          have h1 := hafter e (Array.mem_toList_iff.1 he1)
          simp only [he2, Bool.not_true, Bool.false_or] at h1
          rcases he3 with rfl | he3
          · exact h1
          · exact hcl e.on h1 j he3
        obtain ⟨hc1, hc2, hc3, hc4, hc5⟩ := compOper_some hao
        obtain ⟨Ei, v, Hi, Hi', k1, k2, k3, k4, k5, k6⟩ := g6 i ao hali
        -- the temporaries looked at are there
        have hagr : agree ao.reads E EA := fun p hp => by
          by_cases hw : ∃ (j : Nat) (o' : AOper), al[j]? = some o' ∧ o'.dst = some p
          · obtain ⟨j, o', h1, h2⟩ := hw
            have hmem := (rdg i ao hali).1 p.num hp _ (writers_mem al 0 j o' p h1 h2) rfl
            simp only [Nat.zero_add] at hmem
            exact hE1 j o' p (hbef j hmem) h1 h2
          · have hno : ∀ (j : Nat) (o : AOper), al[j]? = some o → o.dst ≠ some p := fun j o h1 h2 => hw ⟨j, o, h1, h2⟩
            rw [hE2 _ (fun j o _ h1 => hno j o h1), g4 _ hno]
        have hagi : agree ao.reads Ei EA := fun p hp => k4 p fun j o' hle h1 h2 => by
          have hmem := (rdg i ao hali).1 p.num hp _ (writers_mem al 0 j o' p h1 h2) rfl
          simp only [Nat.zero_add] at hmem
          have := (rdg i ao hali).2 j hmem
          omega
        have split_reads : ∀ {x y : Tr}, agree ao.reads x y → (∀ q ∈ ao.op.opds, opd x q = opd y q) ∧ wantA x ao.g = wantA y ao.g := fun h =>
          ⟨opd_agree fun p hp => h p (by simp [AOper.reads, hp]), wantA_agree _ fun p hp => h p (by simp only [AOper.reads, List.mem_append]; exact .inl hp)⟩
        obtain ⟨hE_op, hE_w⟩ := split_reads hagr
        obtain ⟨hEi_op, hEi_w⟩ := split_reads hagi
        have hEE : ∀ q ∈ ao.op.opds, opd E q = opd Ei q := fun q hq => (hE_op q hq).trans (hEi_op q hq).symm
        -- where it stands among the effects
        have hpos : ao.op.effect = true → es[nE (al.take i)]? = some i ∧ c = nE (al.take i) := fun hef => by
          have h1 := effs_get al 0 i ao hali hef
          rw [hes, Nat.zero_add] at h1
          refine ⟨h1, ?_⟩
          have hle : c ≤ nE (al.take i) := by
            rcases Nat.lt_or_ge (nE (al.take i)) c with hlt | hge
            · have := (hes1 _ i h1).2 hlt; rw [hunl] at this; cases this
            · exact hge
          have hge : nE (al.take i) ≤ c := by
            rcases Nat.lt_or_ge c (nE (al.take i)) with hlt | hge
            · have hcl2 : c < es.length := by have := (List.getElem?_eq_some_iff.1 h1).1; omega
              have hmem := (chainOK_get before es [] hchain (nE (al.take i)) i h1).2 c es[c] hlt (List.getElem?_eq_getElem hcl2)
              have := (hes1 c es[c] (List.getElem?_eq_getElem hcl2)).1 (hbef _ hmem)
              omega
            · exact hge
          omega
        have hnoteff : ao.op.effect = false → ∀ (k e : Nat), es[k]? = some e → e ≠ i := fun hef k e hk hei => by
          obtain ⟨j, o', e1, e2, e3, _⟩ := effs_of al 0 k e (by rw [hes]; exact hk)
          have : j = i := by omega
          subst this
          rw [hali] at e2; injection e2 with e2; subst e2
          rw [hef] at e3; cases e3
        -- what it does, here
        have heff_case : ao.op.effect = true → Hc = Hi := fun hef => by
          obtain ⟨_, hcc⟩ := hpos hef
          rw [hcc, k2] at hC; exact (Option.some.inj hC).symm
        -- the rest, behind the step
        have cont : ∀ (H2 : Mem), (ao.op.effect = true → H2 = Hi') → (ao.op.effect = false → H2 = Hc) → ∀ (a2 : Act) (w2 : World) (μ2 : Mp), μ1.le μ2 → Rep P B w0 μ2 H2 w2 → ER μ2 N (putE E ao.dst v) a2.tmps → DR rd μ2 H2 a2 →
            wpAnyIn (Fr r) n P .any ops Q fuel (listed.setIfInBounds i true) a2 w2 := fun H2 hH1 hH2 a2 w2 μ2 hm2 hr2 he2 hd2 => by
          have hg5 : ∀ p, ao.dst = some p → EA.get p = v := fun p hp => by
            obtain ⟨v', h1, h2⟩ := g5 i ao p hali hp (fun j' o' hlt hj' hp' => by have := once i j' ao o' p hali hj' hp hp'; omega)
            rw [k1] at h1; injection h1 with h1; rw [h2, h1]
          have getE : ∀ p, ao.dst ≠ some p → (putE E ao.dst v).get p = E.get p := fun p hp => by
            cases hdst : ao.dst with
            | none => rfl
            | some d => exact Tr.get_set_ne _ _ _ _ (fun e => hp (by rw [hdst, e]))
          have getS : ∀ p, ao.dst = some p → (putE E ao.dst v).get p = v := fun p hp => by
            rw [hp]; exact Tr.get_set_same _ _ _
          refine ih (rem.erase i) (listed.setIfInBounds i true) a2 w2 (if ao.op.effect then c + 1 else c) μ2 (putE E ao.dst v) H2 ?_ ?_ (hnd.erase i) (by simpa using hsz) ?_ (Mp.le_trans hm1 hm2) hr2 he2 hd2 ?_ ?_ ?_ ?_ ?_
          · rw [List.length_erase_of_mem ((hrm i).2 ⟨hi, hunl⟩), hrl]; rfl
          · intro j
            rw [hnd.mem_erase_iff, hrm, getD_set _ _ _ (by omega)]
            by_cases hji : j = i
            · simp [hji]
            · simp [hji]
          · cases hef : ao.op.effect with
            | true =>
              obtain ⟨_, hcc⟩ := hpos hef
              rw [hH1 hef]
              rw [nE_succ hali, hef] at k3
              simp only [if_true] at k3 ⊢
              rw [hcc]; exact k3
            | false =>
              rw [hH2 hef]
              exact hC
          · intro i' hi' j hj
            rw [getD_set _ _ _ (by omega)] at hi' ⊢
            by_cases hji : j = i
            · rw [if_pos hji]
            · rw [if_neg hji]
              by_cases hii : i' = i
              · rw [hii] at hj; exact hbef j hj
              · rw [if_neg hii] at hi'; exact hcl i' hi' j hj
          · intro k e hk
            rw [getD_set _ _ _ (by omega)]
            cases hef : ao.op.effect with
            | true =>
              obtain ⟨h1, hcc⟩ := hpos hef
              simp only [if_true]
              by_cases hei : e = i
              · rw [if_pos hei]
                obtain ⟨j, o', e1, e2, e3, e4⟩ := effs_of al 0 k e (by rw [hes]; exact hk)
                have : j = i := by omega
                subst this
                simp; omega
              · rw [if_neg hei, hes1 k e hk]
                have : k ≠ c := fun hkc => by
                  rw [hkc, hcc, h1] at hk; injection hk with hk; exact hei hk.symm
                omega
            | false =>
              rw [if_neg (hnoteff hef k e hk)]
              simpa using hes1 k e hk
          · cases hef : ao.op.effect with
            | true =>
              obtain ⟨h1, hcc⟩ := hpos hef
              have := (List.getElem?_eq_some_iff.1 h1).1
              simp; omega
            | false => simpa using hcle
          · intro j o' p hj ho' hdst
            rw [getD_set _ _ _ (by omega)] at hj
            by_cases hji : j = i
            · subst hji
              rw [hali] at ho'; injection ho' with ho'; subst ho'
              rw [getS p hdst, hg5 p hdst]
            · rw [if_neg hji] at hj
              rw [getE p (fun hp => hji (once j i o' ao p ho' hali hdst hp))]
              exact hE1 j o' p hj ho' hdst
          · intro p hp
            rw [getE p (fun hpd => hp i ao (by rw [getD_set _ _ _ (by omega), if_pos rfl]) hali hpd)]
            exact hE2 p fun j o' hj ho' => hp j o' (by
              rw [getD_set _ _ _ (by omega)]
              by_cases hji : j = i
              · rw [if_pos hji]
              · rw [if_neg hji]; exact hj) ho'
        -- the step
        unfold wpOpIn
        simp only [ho]
        have hwant := wanted_sound (o := o) he1 hc2
        rw [hwant]
        cases hw : wantA E ao.g with
        | false =>
          rw [if_neg (by simp)]
          have hwi : wantA Ei ao.g = false := by rw [← hw, hE_w, hEi_w]
          obtain ⟨rfl, hHH⟩ := k6 hwi
          have put_d : (a1.put o.dst undef).defers = a1.defers := by cases o.dst <;> rfl
          refine ⟨fun _ _ => trivial, cont Hc (fun hef => by rw [hHH]; exact heff_case hef) (fun _ => rfl) _ _ μ1 (Mp.le_refl _) hr1 ?_ (hd1.step (Mp.le_refl _) rfl put_d)⟩
          rw [hc3]; exact env_put he1 VR.undef hc5
        | true =>
          rw [if_pos rfl]
          have hwi : wantA Ei ao.g = true := by rw [← hw, hE_w, hEi_w]
          have hopi := k5 hwi
          cases hef : ao.op.effect with
          | true =>
            have hop : evOp cf E Hc ao.op = some (v, Hi') := by rw [evOp_agree cf Hc ao.op hEE, heff_case hef]; exact hopi
            exact op_sound hcf hr1 (hg.mono hm1) he1 hao hop hd1 r n fun a2 w2 μ2 hm2 hr2 he2 hd2 => cont Hi' (fun _ => rfl) (fun e => by rw [hef] at e; cases e) a2 w2 μ2 hm2 hr2 he2 hd2
          | false =>
            have hpk : ao.op.kd = .pure := by
              unfold AOp.effect at hef
              split at hef
              · assumption
              · cases hef
            have hpi : pureA Ei Hi ao.op = some v := by
              unfold evOp at hopi
              rw [hpk] at hopi
              simp only at hopi
              split at hopi <;> simp at hopi
              rename_i x hx
              rw [hx, hopi.1]
            have hp : pureA E Hc ao.op = some v := by
              cases hlk : ao.op.looks with
              | false => rw [pureA_agree Hc ao.op hEE, looks_agree (H' := Hi) hpk hlk]; exact hpi
              | true =>
                rw [pureA_agree Hc ao.op hE_op]
                have hfl := floatOK_get before es EA (H :: Cs) al vs 0 hfl i ao v hali k1 hlk hef (by rw [← hE_w]; exact hw) c Hc
                simp only [Nat.zero_add] at hfl
                refine hfl (lowE_le _ es 0 0 c (fun k e hk hmem => ?_) (Nat.zero_le _)) (le_highE before i es 0 c (fun k e hk hlt hmem => ?_) (by omega)) hC
                · have := (hes1 k e hk).1 (hbef e hmem); omega
                · have h1 := (hes1 k e hk).2 (by omega)
                  have := hcl e h1 i hmem
                  rw [hunl] at this; cases this
            have hop : evOp cf E Hc ao.op = some (v, Hc) := by simp only [evOp, hpk, hp]
            exact op_sound hcf hr1 (hg.mono hm1) he1 hao hop hd1 r n fun a2 w2 μ2 hm2 hr2 he2 hd2 => cont Hc (fun e => by rw [hef] at e; cases e) (fun _ => rfl) a2 w2 μ2 hm2 hr2 he2 hd2
  have hrep : ∀ j, (Array.replicate ops.size false).getD j false = false := fun j => by
    rw [Array.getD_eq_getD_getElem?, Array.getElem?_replicate]
    split <;> rfl
  refine key ops.size (List.range ops.size) _ a _ 0 μ env H (by simp) (fun j => ?_) List.nodup_range (by simp) rfl (Mp.le_refl _) hr.drew he hd ?_ ?_ (Nat.zero_le _) ?_ ?_
  · rw [List.mem_range, hrep]; simp
  · intro i hi; rw [hrep] at hi; cases hi
  · intro k e hk; rw [hrep]; simp
  · intro j o p hj; rw [hrep] at hj; cases hj
  · intro p _; rfl
end
end Go.Fw
end
section
/- The framework, part Y: calls that are told: bytealg's entries; what a call that makes memory of its own alone does. -/
namespace Go.Fw
open Go.RowKit

def idxF : List UInt8 → Nat → Nat → Int
  | [], _, _ => .negSucc 0
  | b :: l, c, k => bif Nat.beq b.toNat c then .ofNat k else idxF l c (Nat.succ k)
def cntF : List UInt8 → Nat → Nat → Nat
  | [], _, k => k
  | b :: l, c, k => bif Nat.beq b.toNat c then cntF l c (Nat.succ k) else cntF l c k
theorem toU8 (c : Nat) (b : UInt8) : (b == c.toUInt8) = Nat.beq b.toNat (c % 256) := by
  rw [beqN]
  have h : (b = c.toUInt8) ↔ (b.toNat = c % 256) := by
    rw [← UInt8.toNat_inj]
    simp [Nat.toUInt8]
  by_cases e : b = c.toUInt8
  · rw [e]; simp [Nat.toUInt8]
  · have : ¬ (b.toNat = c % 256) := fun h2 => e (h.2 h2)
    simp [e, this]
theorem idxF_eq (c : Nat) : ∀ (l : List UInt8) (k : Nat), idxF l (c % 256) k = if Lib.indexByte l c.toUInt8 = -1 then -1 else Lib.indexByte l c.toUInt8 + k
  | [], k => by simp [idxF, Lib.indexByte]
  | b :: l, k => by
    simp only [idxF, Lib.indexByte, toU8]
    cases Nat.beq b.toNat (c % 256) with
    | true => simp
    | false =>
      simp only [cond_false, Bool.false_eq_true, if_false, idxF_eq c l (Nat.succ k), beq_iff_eq]
      have hge := Lib.indexByte_ge l c.toUInt8
      by_cases h : Lib.indexByte l c.toUInt8 = -1
      · simp [h]
      · have : ¬ (Lib.indexByte l c.toUInt8 + 1 = -1) := by omega
        simp only [h, if_false, this]; omega
theorem cntF_eq (c : Nat) : ∀ (l : List UInt8) (k : Nat), cntF l (c % 256) k = l.count c.toUInt8 + k
  | [], k => by simp [cntF]
  | b :: l, k => by
    simp only [cntF, List.count_cons, toU8]
    cases Nat.beq b.toNat (c % 256) with
    | true => simp only [cond_true, if_true, cntF_eq c l (Nat.succ k)]; omega
    | false => simp only [cond_false, Bool.false_eq_true, if_false, cntF_eq c l k]; omega
/-- The texts of a slice's elements. -/
def textsOf : List AV → Option (List (List UInt8))
  | [] => some []
  | .s l :: r => match textsOf r with
    | some x => some (l :: x)
    | none => none
  | _ => none
def joinF (sep : List UInt8) : List (List UInt8) → List UInt8
  | [] => []
  | [x] => x
  | x :: r => x ++ sep ++ joinF sep r
def joinA (H : Mem) (s : AV) (sep : List UInt8) : Option AV :=
  match s with
  | .sl id off len _ => match H.get id with
    | .mem l sz _ _ _ => bif Nat.beq sz 1 && Nat.ble (off + len) l.length && Nat.ble len 140737488355328 then match textsOf ((l.drop off).take len) with
      | some xs => frcL (joinF sep xs) fun out => bif Nat.ble out.length 140737488355328 then some (.s out) else none
      | none => none
      else none
    | _ => none
  | .nsl => some (.s [])
  | .esl => some (.s [])
  | _ => none
/-- IndexByteString, CountString, strings.Join: by their numbers. -/
def extA (ib cs jn : Nat) : CallF := fun c args H =>
  match c with
  | .f f => bif Nat.beq f ib then (match args with | [.s l, .i .u8 (.ofNat n)] => frcI (idxF l (n % 256) 0) fun k => some (.i .i64 k, H) | _ => none)
    else bif Nat.beq f cs then (match args with | [.s l, .i .u8 (.ofNat n)] => frcN (cntF l (n % 256) 0) fun k => some (.i .i64 (.ofNat k), H) | _ => none)
    else bif Nat.beq f jn then (match args with
      | [s, .s sep] => match joinA H s sep with
        | some v => some (v, H)
        | none => none
      | _ => none)
    else none
  | _ => none
section
variable {P : Program} {μ : Mp} {B : Bd} {w0 w : World} {H : Mem}
/-- A call that has made memory of its own alone. -/
theorem Rep.grow (hr : Rep P B w0 μ H w) {w' : World} (hb : Below w.heap.size w w') : Rep P B w0 μ H w' := by
  refine ⟨hr.below.trans (Stay.of_below hb hr.base), fun k hk => Nat.lt_of_lt_of_le (hr.base k hk) hb.size, hr.n, fun id hd => ⟨(hr.obj id hd).1, (hr.obj id hd).2.keep (Mp.le_refl _) (hb.block _ (hr.lt hd))⟩, hr.inj, hr.ro, hr.rlt, hr.rno⟩
/-- An entry of the model's. -/
theorem ext_told {f : FuncId} {fn : Func} {e : Array Value → Sem Value} (hf : P.funcs[f]? = some fn) (hname : (fn.name == "runtime.NumGoroutine") = false)
    (hb : fn.body.isNone = true) (hn : Extern.findNext fn = none) (he : Extern.find fn = some e) {us : Array Value} {c : Value} (h : (e us).run P w = .ok c w) (hr : Rep P B w0 μ H w) {v : AV} (hv : VR μ v c) :
    UponR P B w0 μ H v ((callFunc f us).run P w) := by
  rw [run_callFunc_extern hf hname hb hn he, h]
  exact UponR.of_value rfl (Mp.le_refl _) hr hv
theorem two_args {x y : AV} {us : Array Value} (h : VRs μ [x, y] us.toList) : ∃ u v, us = #[u, v] ∧ VR μ x u ∧ VR μ y v := by
  simp only [VRs] at h
  obtain ⟨u, r, e1, hu, v, r2, e2, hv, e3⟩ := h
  subst e3; subst e2
  exact ⟨u, v, Array.toList_inj.1 e1, hu, hv⟩
/-- What is asked of the program's functions that are told. -/
structure Told (P : Program) (ib cs jn : Nat) : Prop where
  eib : ∃ fn, P.funcs[ib]? = some fn ∧ (fn.name == "runtime.NumGoroutine") = false ∧ fn.body.isNone = true ∧ Extern.findNext fn = none ∧ Extern.find fn = some Extern.BytealgIndexByte.indexByte
  ecs : ∃ fn, P.funcs[cs]? = some fn ∧ (fn.name == "runtime.NumGoroutine") = false ∧ fn.body.isNone = true ∧ Extern.findNext fn = none ∧ Extern.find fn = some Extern.BytealgCount.count
  ejn : ∃ fn, P.funcs[jn]? = some fn ∧ (fn.name == "runtime.NumGoroutine") = false ∧ fn.body.isSome = true
  join0 : ∀ (a : Option Addr) (c : Nat) (sep : ByteArray) (w : World), Calls P jn #[.slice a 0 c, .string sep] w fun e w' => e = .returned (.string ⟨#[]⟩) ∧ w' = w
  join : ∀ (bk o c : Nat) (xs : List ByteArray) (sep : ByteArray) (w : World), (∀ (j : Nat) x, xs[j]? = some x → w.cell? ⟨bk, o + j, none⟩ = some (.string x)) → bk < w.heap.size → xs.length ≤ 140737488355328 → xs.length ≤ c →
    (Lib.join (xs.map (·.data.toList)) sep.data.toList).length ≤ 140737488355328 →
    Calls P jn #[.slice (some ⟨bk, o, none⟩) xs.length c, .string sep] w fun e w' => e = .returned (.string ⟨(Lib.join (xs.map (·.data.toList)) sep.data.toList).toArray⟩) ∧ Below w.heap.size w w'
theorem textsOf_some : ∀ (l : List AV) (xs : List (List UInt8)), textsOf l = some xs → l = xs.map AV.s
  | [], xs, h => by simp [textsOf] at h; subst h; rfl
  | x :: l, xs, h => by
    cases x <;> simp [textsOf] at h
    split at h <;> simp at h
    rename_i r hr
    subst h
    rw [textsOf_some l r hr]; rfl
theorem joinF_eq (sep : List UInt8) : ∀ ys : List (List UInt8), Lib.join ys sep = joinF sep ys
  | [] => rfl
  | [x] => by simp [Lib.join, joinF, List.intercalate]
  | x :: y :: r => by
    have ih := joinF_eq sep (y :: r)
    simp only [Lib.join, List.intercalate] at ih ⊢
    rw [List.intersperse_cons_cons, List.flatten_cons, List.flatten_cons, ih]
    simp [joinF]
theorem body_enter {jn : Nat} {fn : Func} (hf : P.funcs[jn]? = some fn) (hname : (fn.name == "runtime.NumGoroutine") = false) (hb : fn.body.isSome = true) (us : Array Value) (w : World) : (callFunc jn us).run P w = .ok (.enter jn us) w := by
  have h1 : fn.name ≠ "runtime.NumGoroutine" := by simpa using hname
  cases h2 : fn.body with
  | none => simp [h2] at hb
  | some c => simp [callFunc, hf, h1, h2]
theorem extA_ok {ib cs jn : Nat} (T : Told P ib cs jn) : CallOK P B w0 (extA ib cs jn) := by
  intro c args H v H' μ w us hv hr hg ha
  cases c with
  | f f =>
    simp only [extA] at hv
    rw [beqN] at hv
    by_cases h1 : f = ib
    · subst h1
      simp only [decide_true, cond_true] at hv
      split at hv <;> try (simp at hv; done)
      rename_i l n
      rw [frcI_eq] at hv
      simp at hv; obtain ⟨rfl, rfl⟩ := hv
      obtain ⟨u1, u2, rfl, hu1, hu2⟩ := two_args ha
      simp only [VR] at hu1 hu2; subst hu1 hu2
      obtain ⟨fn, e1, e2, e3, e4, e5⟩ := T.eib
      refine ⟨rfl, ext_told e1 e2 e3 e4 e5 (Lib.run_indexByteString ⟨l.toArray⟩ (.ofNat n) w) hr ?_⟩
      simp only [VR]
      congr 1
      rw [idxF_eq]
      show Lib.indexByte l (Int.ofNat n).toNat.toUInt8 = _
      simp only [Int.toNat_natCast, Int.ofNat_eq_natCast]
      split
      · assumption
      · simp
    · simp only [h1, decide_false, cond_false] at hv
      rw [beqN] at hv
      by_cases h2 : f = cs
      · subst h2
        simp only [decide_true, cond_true] at hv
        split at hv <;> try (simp at hv; done)
        rename_i l n
        rw [frcN_eq] at hv
        simp at hv; obtain ⟨rfl, rfl⟩ := hv
        obtain ⟨u1, u2, rfl, hu1, hu2⟩ := two_args ha
        simp only [VR] at hu1 hu2; subst hu1 hu2
        obtain ⟨fn, e1, e2, e3, e4, e5⟩ := T.ecs
        refine ⟨rfl, ext_told e1 e2 e3 e4 e5 (Lib.run_countString ⟨l.toArray⟩ (.ofNat n) w) hr ?_⟩
        simp only [VR]
        congr 1
        rw [cntF_eq]
        show ((Lib.countByte l (Int.ofNat n).toNat.toUInt8 : Nat) : Int) = _
        simp [Lib.countByte]
      · simp only [h2, decide_false, cond_false] at hv
        rw [beqN] at hv
        by_cases h3 : f = jn
        · subst h3
          simp only [decide_true, cond_true] at hv
          split at hv <;> try (simp at hv; done)
          rename_i s sep
          split at hv <;> simp at hv
          rename_i v' hj
          obtain ⟨rfl, rfl⟩ := hv
          obtain ⟨u1, u2, rfl, hu1, hu2⟩ := two_args ha
          simp only [VR] at hu2; subst hu2
          obtain ⟨fn, e1, e2, e3⟩ := T.ejn
          refine ⟨rfl, UponR.of_calls (body_enter e1 e2 e3 _ w) fun n => ?_⟩
          have wide : ∀ {R : Ending → World → Prop} {us : Array Value}, Calls P f us w R → CallsIn (Fr none) n P f us w R := fun h => callsIn_wide.2 h
          have empty : ∀ (a : Option Addr) (c : Nat), CallsIn (Fr none) n P f #[.slice a 0 c, .string ⟨sep.toArray⟩] w (RetR P B w0 μ H (.s [])) := fun a c =>
            wide ((T.join0 a c _ w).mono fun e w' ⟨h1, h2⟩ => ⟨_, μ, h1, Mp.le_refl _, by rw [h2]; exact hr, rfl⟩)
          unfold joinA at hj
          split at hj
          · rename_i id off len cap
            split at hj <;> try (simp at hj; done)
            rename_i l sz ty own frz eo
            cases hc : (Nat.beq sz 1 && Nat.ble (off + len) l.length && Nat.ble len 140737488355328) with
            | false => simp [hc] at hj
            | true =>
              simp only [hc, cond_true] at hj
              simp only [Bool.and_eq_true, beqN, decide_eq_true_eq] at hc
              obtain ⟨⟨rfl, hle⟩, hlen⟩ := hc
              have hle := Nat.le_of_ble_eq_true hle
              have hlen := Nat.le_of_ble_eq_true hlen
              split at hj <;> try (simp at hj; done)
              rename_i xs hxs
              rw [frcL_eq] at hj
              cases hb : Nat.ble (joinF sep xs).length 140737488355328 with
              | false => simp [hb] at hj
              | true =>
                simp only [hb, cond_true, Option.some.injEq] at hj
                subst hj
                have hb := Nat.le_of_ble_eq_true hb
                have hmap := textsOf_some _ _ hxs
                simp only [VR] at hu1
                obtain ⟨hid, c, rfl, hlc, _⟩ := hu1
                have hob := hr.at_ eo (by simp)
                obtain ⟨vs, hl, hvs, hcell⟩ := hob.range off len hle
                rw [hmap] at hvs
                have hxl : xs.length = len := by have := VRs.length hvs; simp at this; omega
                have hjoin : ∀ ys : List (List UInt8), Lib.join ys sep = joinF sep ys := joinF_eq sep
                have hlt := hr.lt (id := id) (by rw [eo]; simp)
                have := T.join (μ.f id).blk ((μ.f id).base + off) c (xs.map fun x => (⟨x.toArray⟩ : ByteArray)) ⟨sep.toArray⟩ w (fun j x hx => by
                    rw [List.getElem?_map] at hx
                    obtain ⟨y, hy, rfl⟩ := Option.map_eq_some_iff.1 hx
                    obtain ⟨u, hu, r⟩ := VRs.get hvs (j := j) (x := .s y) (by rw [List.getElem?_map, hy]; rfl)
                    simp only [VR] at r; subst r
                    exact hcell j _ hu) hlt (by simp; omega) (by simp; omega) (by
                    simp only [List.map_map, Function.comp_def, List.toList_toArray, List.map_id', hjoin]; exact hb)
                simp only [List.length_map, hxl, List.map_map, Function.comp_def, List.toList_toArray, List.map_id', hjoin] at this
                exact wide (this.mono fun e w' ⟨h1, h2⟩ => ⟨_, μ, h1, Mp.le_refl _, hr.grow h2, rfl⟩)
          · simp only [VR] at hu1; subst hu1
            simp at hj; subst hj
            exact empty _ _
          · simp only [VR] at hu1; obtain ⟨ad, c, rfl⟩ := hu1
            simp at hj; subst hj
            exact empty _ _
          · simp at hj
        · simp [h3] at hv
  | b f => simp [extA] at hv
  | y l => simp [extA] at hv
end
end Go.Fw
end
section
/- The framework, part U: an allocation, whatever identifier its object gets. -/
namespace Go.Fw
open Go.RowKit

def AOp.isNew : AOp → Bool
  | .alloc .. | .box .. | .buildSl .. | .mkmap | .mksl .. => true
  | _ => false
/-- What an allocation yields and makes, its object's identifier given. -/
def newAt (env : Tr) (id : Nat) (o : AOp) : Option (AV × AO) := match effA env ⟨id, .e, []⟩ o with
  | some (v, H) => some (v, H.get id)
  | none => none
theorem isNew_kd {o : AOp} (h : o.isNew = true) : o.kd = .eff := by cases o <;> simp [AOp.isNew] at h <;> rfl
theorem newAt_eff {env : Tr} {H : Mem} {o : AOp} (h : o.isNew = true) {v : AV} {H' : Mem} (he : effA env H o = some (v, H')) : ∃ ob, newAt env H.next o = some (v, ob) ∧ H' = H.push ob ∧ ob.owns = true := by
  cases o <;> simp [AOp.isNew] at h
  case alloc z n t =>
    simp only [effA, Option.some.injEq, Prod.mk.injEq] at he
    obtain ⟨rfl, rfl⟩ := he
    exact ⟨.mem z n t true 0, by simp [newAt, effA], rfl, rfl⟩
  case box t x =>
    simp only [effA] at he
    split at he <;> simp at he
    obtain ⟨rfl, rfl⟩ := he
    exact ⟨.mem (opd env x).cells 0 t true 0, by simp [newAt, effA, *], rfl, rfl⟩
  case buildSl z n sz t p =>
    simp only [effA] at he
    split at he
    case isFalse => simp at he
    rename_i hc
    split at he <;> simp at he
    rename_i l hl
    obtain ⟨rfl, rfl⟩ := he
    exact ⟨.mem l sz t true 0, by simp [newAt, effA, hc, hl], rfl, rfl⟩
  case mkmap =>
    simp only [effA, Option.some.injEq, Prod.mk.injEq] at he
    obtain ⟨rfl, rfl⟩ := he
    exact ⟨.map [], by simp [newAt, effA], rfl, rfl⟩
  case mksl z a b t l c =>
    simp only [effA] at he
    split at he <;> try (simp at he; done)
    rename_i n1 n2 h1 h2
    split at he <;> simp at he
    rename_i hc
    obtain ⟨rfl, rfl⟩ := he
    exact ⟨.mem (repeatL z n2) a t true 0, by simp [newAt, effA, h1, h2, hc], rfl, rfl⟩
theorem newAt_agree {a b : Tr} (id : Nat) (o : AOp) (h : ∀ x ∈ o.opds, opd a x = opd b x) : newAt a id o = newAt b id o := by
  simp only [newAt, effA_agree _ o h]

section
variable {P : Program} {μ : Mp} {B : Bd} {w0 w : World} {H : Mem} {a : Act} {env : Tr} {N : Nat}
theorem fresh_obj {ν : Mp} (hB : ∀ k, B k → k < w.heap.size) {cs : Array Value} {t : TypeId} {l : List AV} {sz : Nat} (hl : VRs ν l cs.toList) : ObjR P B ν (w.alloc (.cells cs t)) ⟨w.heap.size, 0, cs.size, sz⟩ (.mem l sz t true 0) := by
  have hnew : (w.alloc (.cells cs t)).heap[w.heap.size]? = some (.cells cs t (0, 0)) := by
    show (w.heap.push _)[w.heap.size]? = _
    rw [Array.getElem?_push, if_pos rfl]
  have hlen := VRs.length hl
  simp only [Array.length_toList] at hlen
  refine ⟨cs, (0, 0), hnew, Nat.le_refl _, by simp only; omega, rfl, fun j x hx => ?_, fun _ => ⟨fun hk => Nat.lt_irrefl _ (hB _ hk), fun j _ hj => ?_, rfl, fun _ => by omega⟩⟩
  · obtain ⟨v, e, r⟩ := VRs.get hl hx
    rw [Array.getElem?_toList] at e
    exact ⟨v, by simpa using e, r⟩
  · simp
/-- A new object at an identifier that has no place yet. -/
theorem Rep.pushAt (h : Rep P B w0 μ H w) {w' : World} {k : Blk} {o : AO} {id : Nat} (hid : ¬ μ.has id) (hlt : id < H.next) (hres : ¬ B.res id) (hb : Stay B w w')
    (hold : ∀ id, H.get id ≠ .dead → w'.heap[(μ.f id).blk]? = w.heap[(μ.f id).blk]?)
    (hk : ∀ id, (H.get id).owns = true → (μ.f id).blk ≠ k.blk) (ho : ObjR P B (μ.push id k) w' k o) (hown : o.owns = true) : Rep P B w0 (μ.push id k) (H.put id o) w' := by
  have hdead : H.get id = .dead := by
    cases e : H.get id with
    | dead => rfl
    | _ => exact absurd (h.obj id (by rw [e]; simp)).1 hid
  refine ⟨h.below.trans hb, fun k hk => Nat.lt_of_lt_of_le (h.base k hk) hb.size, fun j hj => ?_, fun j hj => ?_, fun i j hij oi oj => ?_, fun i oi di => ?_, h.rlt, fun j hj hh => hh.elim (fun e => hres (e ▸ hj)) (h.rno j hj)⟩
  · rcases hj with hj | hj
    · subst hj; exact hlt
    · exact h.n j hj
  · rw [Mem.get_put] at hj ⊢
    by_cases e : j = id
    · rw [if_pos e, e, Mp.push_f]; exact ⟨.inl rfl, ho⟩
    · rw [if_neg e] at hj ⊢
      rw [Mp.push_f_ne _ _ _ e]
      exact ⟨.inr (h.obj j hj).1, (h.obj j hj).2.keep (Mp.push_le hid _) (hold j hj)⟩
  · rw [Mem.get_put] at oi oj
    by_cases ei : i = id
    · rw [if_neg (by omega)] at oj
      rw [ei, Mp.push_f, Mp.push_f_ne _ _ _ (by omega)]
      exact (hk j oj).symm
    · rw [if_neg ei] at oi
      rw [Mp.push_f_ne _ _ _ ei]
      by_cases ej : j = id
      · rw [ej, Mp.push_f]; exact hk i oi
      · rw [if_neg ej] at oj
        rw [Mp.push_f_ne _ _ _ ej]
        exact h.inj i j hij oi oj
  · rw [Mem.get_put] at oi di
    by_cases ei : i = id
    · rw [if_pos ei] at oi; rw [hown] at oi; cases oi
    · rw [if_neg ei] at oi di
      rw [Mp.push_f_ne _ _ _ ei]
      exact h.ro i oi di
theorem getp (id : Nat) (ob : AO) : Mem.get (Mem.push ⟨id, .e, []⟩ ob) id = ob := Mem.get_push_same ⟨id, .e, []⟩ ob
/-- What an allocation does in the machine, whatever identifier its object gets. -/
theorem new_run (hr : Rep P B w0 μ H w) (hg : Gl P μ) (he : ER μ N env a.tmps) {o : Oper} {p : AOp} (hc : compOp P o = some p) (hk : p.isNew = true) {id : Nat} {v : AV} {ob : AO} (hv : newAt env id p = some (v, ob)) :
    ∃ c O k, (execOp a.eval o).run P w = .ok (.value c) (w.alloc O) ∧ k.blk = w.heap.size ∧ ob.owns = true ∧ ∀ ν, μ.le ν → ν.has id → ν.f id = k → ObjR P B ν (w.alloc O) k ob ∧ VR ν v c := by
  have X : ∀ {x : Operand} {y : Opd}, compX P x = some y → VR μ (opd env y) (a.eval x) := fun h => opd_sound hg he h
  unfold compOp at hc; unfold execOp
  cases hop : o.op <;> simp only [hop] at hc ⊢ <;> try (simp at hc; done)
  case alloc e =>
    have : ∃ z n, p = .alloc z n e ∧ tyZero P e = some z := by
      split at hc
      · obtain ⟨n, _, rfl⟩ := Option.map_eq_some_iff.1 hc; exact ⟨_, _, rfl, ‹_›⟩
      · exact ⟨_, _, (Option.some.inj hc).symm, ‹_›⟩
      · cases hc
    obtain ⟨z, n, rfl, hz⟩ := this
    simp only [newAt, effA, Option.some.injEq, Prod.mk.injEq, getp] at hv
    obtain ⟨rfl, rfl⟩ := hv
    obtain ⟨i, zv, hi, hzv, hzr⟩ := tyZero_some (μ := μ) hz
    refine ⟨.pointer (some ⟨w.heap.size, 0, none⟩), .cells zv.cells e, ⟨w.heap.size, 0, zv.cells.size, n⟩, vrun ?_, rfl, rfl, fun ν hm hh hf => ⟨fresh_obj hr.base (VRs.mono hm hzr), hh, by rw [hf]⟩⟩
    simp [Instr.alloc, zeroValue, typeInfo, hi, hzv, newVar, newRow]
  case box e x =>
    obtain ⟨y, hy, rfl⟩ := Option.map_eq_some_iff.1 hc
    simp only [newAt, effA] at hv
    split at hv <;> try (simp at hv; done)
    rename_i hx
    split at hx <;> simp at hx
    obtain ⟨rfl, rfl⟩ := hx
    simp only [Option.some.injEq, Prod.mk.injEq, getp] at hv
    obtain ⟨rfl, rfl⟩ := hv
    refine ⟨.pointer (some ⟨w.heap.size, 0, none⟩), .cells (a.eval x).cells e, ⟨w.heap.size, 0, (a.eval x).cells.size, 0⟩, vrun ?_, rfl, rfl, fun ν hm hh hf => ⟨fresh_obj hr.base (VRs.mono hm (X hy).cells), hh, by rw [hf]⟩⟩
    simp [Instr.box, newVar, newRow]
  case buildSlice t n parts =>
    split at hc <;> try (simp at hc; done)
    rename_i e sz bytes z hel
    split at hc <;> simp at hc
    rename_i l hl
    subst hc
    simp only [newAt, effA] at hv
    split at hv <;> try (simp at hv; done)
    rename_i hx
    split at hx
    case isFalse => simp at hx
    rename_i hcond
    split at hx <;> simp at hx
    rename_i out ho
    obtain ⟨rfl, rfl⟩ := hx
    simp only [Option.some.injEq, Prod.mk.injEq, getp] at hv
    obtain ⟨rfl, rfl⟩ := hv
    -- by the theorem on effects, at an identifier of its own: the run and the cells
    obtain ⟨hzl, hbig, hpos⟩ := hcond
    obtain ⟨i, zv, ht, hi, hzv, rfl, rfl, hzr⟩ := elemOfT_some (μ := μ) hel
    have hzs : zv.cells.size = i.size := by have := VRs.length hzr; simpa [hzl] using this
    have hcp : ∀ (ps : List (Nat × Operand)) (l : List (Nat × Nat × Opd)), compParts P (fun k => some (k, i.size)) ps = some l →
        compParts P (fun k => some (k * i.size, i.size)) ps = some (l.map fun (k, n, x) => (k * i.size, n, x)) ∧ ∀ q ∈ l, q.2.1 = i.size := by
      intro ps
      induction ps with
      | nil => intro l h; simp [compParts] at h; subst h; exact ⟨rfl, by simp⟩
      | cons q ps ih =>
        intro l h
        obtain ⟨k, x⟩ := q
        simp only [compParts] at h
        split at h <;> simp at h
        rename_i o' n' y l' hp hx hr
        subst h
        simp at hp; obtain ⟨rfl, rfl⟩ := hp
        obtain ⟨h1, h2⟩ := ih l' hr
        refine ⟨by simp [compParts, hx, h1], fun q hq => ?_⟩
        rcases List.mem_cons.1 hq with rfl | hq
        · rfl
        · exact h2 q hq
    obtain ⟨h1, h2⟩ := hcp _ _ hl
    have hrep := repeat_sound hzr (by omega) n
    rw [hzl] at hrep
    obtain ⟨cs', g1, g2⟩ := fill_sound (out := out) hg he _ _ _ _ _ h1 hrep (by
      rw [← ho]
      congr 1
      rw [List.map_map, List.map_map]
      refine List.map_congr_left fun q hq => ?_
      simp only [Function.comp]
      rw [h2 q hq])
    have hsz : cs'.size = n * i.size := by
      have e1 := VRs.length g2
      have : ∀ (ps : List (Nat × Nat × AV)) (c out : List AV), fillA c ps = some out → out.length = c.length := by
        intro ps
        induction ps with
        | nil => intro c out h; simp [fillA] at h; rw [h]
        | cons q ps ih =>
          intro c out h
          obtain ⟨o', n', v'⟩ := q
          simp only [fillA] at h
          split at h
          case isFalse => simp at h
          rename_i hq
          rw [ih _ _ h, splice_length _ _ _ (by omega)]; omega
      have e2 := this _ _ _ ho
      rw [repeatL_length, hzl] at e2
      simp only [Array.length_toList] at e1
      omega
    refine ⟨.slice (some ⟨w.heap.size, 0, none⟩) n n, .cells cs' e, ⟨w.heap.size, 0, cs'.size, i.size⟩, vrun ?_, rfl, rfl, fun ν hm hh hf => ⟨fresh_obj hr.base (VRs.mono hm g2), hh, n, by rw [hf], Nat.le_refl _, by rw [hf]; simp only [Nat.zero_add]; omega, fun c' e => by injection e with e; exact e.symm⟩⟩
    by_cases hn0 : n * i.size = 0
    · have hn : n = 0 := by
        rcases Nat.mul_eq_zero.1 hn0 with h | h
        · exact h
        · omega
      subst hn
      simp [Array.range_zero'] at g1
      simp [Instr.buildSlice, run_underlying ht, sizeOf, typeInfo, hi, newRow, Array.range_zero', g1]
    · simp [Instr.buildSlice, run_underlying ht, sizeOf, typeInfo, zeroValue, hi, hzv, hn0, show ¬ 16777216 < n * i.size by omega, g1, newRow]
  case makeMap t r =>
    have : p = .mkmap ∧ r = none := by cases r <;> simp at hc; exact ⟨hc.symm, rfl⟩
    obtain ⟨rfl, rfl⟩ := this
    simp only [newAt, effA, Option.some.injEq, Prod.mk.injEq, getp] at hv
    obtain ⟨rfl, rfl⟩ := hv
    refine ⟨.map (some w.heap.size), .map #[] 0, ⟨w.heap.size, 0, 0, 0⟩, vrun ?_, rfl, rfl, fun ν hm hh hf => ⟨⟨#[], 0, ?_, ⟨rfl, rfl⟩, fun hk => Nat.lt_irrefl _ (hr.base _ hk)⟩, hh, by rw [hf]⟩⟩
    · simp [Instr.makeMap]
    · show (w.heap.push _)[w.heap.size]? = _
      rw [Array.getElem?_push, if_pos rfl]
  case makeSlice t l c =>
    split at hc <;> simp at hc
    rename_i e sz bytes z l' c' hel hl hcc
    subst hc
    simp only [newAt, effA] at hv
    split at hv <;> try (simp at hv; done)
    rename_i hx
    split at hx <;> try (simp at hx; done)
    rename_i l c hln hcn
    split at hx
    case isFalse => simp at hx
    rename_i hcond
    simp at hx
    obtain ⟨rfl, rfl⟩ := hx
    simp only [Option.some.injEq, Prod.mk.injEq, getp] at hv
    obtain ⟨rfl, rfl⟩ := hv
    obtain ⟨hlc, hb, hc47, hzl, hpos⟩ := hcond
    obtain ⟨i, zv, ht, hi, hzv, rfl, rfl, hzr⟩ := elemOfT_some (μ := μ) hel
    obtain ⟨kl, il, e1, e2, rfl⟩ := natOf_run (X hl) hln
    obtain ⟨kc, ic, e3, e4, rfl⟩ := natOf_run (X hcc) hcn
    have hb2 : (i.bytes : Int) * ic ≤ 281474976710656 := by
      have : ((ic.toNat * i.bytes : Nat) : Int) ≤ 140737488355328 := by omega
      rw [Int.natCast_mul, Int.toNat_of_nonneg e4, Int.mul_comm] at this
      omega
    have hrun := run_make (P := P) w t e i zv ht hi hzv kl kc il ic e2 (by omega) hb2 (by omega)
    have hrep := repeat_sound hzr (by omega) ic.toNat
    rw [hzl] at hrep
    refine ⟨_, .cells (madeCells zv.cells (ic.toNat * i.size)) e, ⟨w.heap.size, 0, (madeCells zv.cells (ic.toNat * i.size)).size, i.size⟩, vrun (by rw [e1, e3]; exact hrun), rfl, rfl, fun ν hm hh hf => ⟨fresh_obj hr.base (VRs.mono hm hrep), hh, ic.toNat, by rw [hf], hlc, by rw [hf]; simp only [Nat.zero_add, size_madeCells]; omega, fun c' e => by injection e with e; exact e.symm⟩⟩
  case makeFunc fn x y =>
    exfalso
    cases fn <;> simp only at hc <;> try (simp at hc; done)
    split at hc <;> simp at hc
    subst hc; simp [AOp.isNew] at hk
  all_goals
    exfalso
    repeat' split at hc
    all_goals first
      | (simp at hc; done)
      | (obtain ⟨_, _, rfl⟩ := Option.map_eq_some_iff.1 hc; simp [AOp.isNew] at hk; done)
      | (injection hc with hc; subst hc; simp [AOp.isNew] at hk; done)
end
end Go.Fw
end
section
/- The framework, part Z: objects that are hid from a step, and shown again behind it. -/
namespace Go.Fw
open Go.RowKit
section
variable {P : Program} {μ : Mp} {B : Bd} {w0 w : World} {H : Mem}
theorem ObjR.widen {B' : Bd} {k : Blk} {o : AO} (h : ObjR P B μ w k o) (hb : o.owns = true → ¬ B' k.blk) : ObjR P B' μ w k o := by
  cases o with
  | mem l sz t own frz =>
    obtain ⟨cs, fr, h1, h2, h3, h4, h5, h6⟩ := h
    exact ⟨cs, fr, h1, h2, h3, h4, h5, fun e => ⟨hb e, (h6 e).2⟩⟩
  | map l =>
    obtain ⟨es, cl, h1, h2, h3⟩ := h
    exact ⟨es, cl, h1, h2, hb rfl⟩
  | loop st pend tmps ps asg body =>
    obtain ⟨N, r, h1, h2, h3, h4, h5, h6, h7, h8, h9⟩ := h
    exact ⟨N, r, h1, h2, h3, h4, h5, h6, h7, h8, hb rfl⟩
  | defs => exact ⟨h.1, hb rfl⟩
  | froz l t =>
    obtain ⟨cs, fr, h1, h2, h3, h4, h5⟩ := h
    exact ⟨cs, fr, h1, h2, h3, h4, hb rfl⟩
  | tab l => exact h
  | dead => trivial
/-- The blocks of some objects stay, too. -/
def Bd.more (B : Bd) (μ : Mp) (X : Nat → Prop) : Bd := ⟨fun k => B k ∨ ∃ id, X id ∧ (μ.f id).blk = k, B.ro, B.res, fun k h => .inl (B.sub k h)⟩
theorem Rep.hide (hr : Rep P B w0 μ H w) {X : Nat → Prop} (hX : ∀ id, X id → (H.get id).owns = true) {H2 : Mem} (hn : H2.next = H.next) (h1 : ∀ id, X id → H2.get id = .dead) (h2 : ∀ id, ¬ X id → H2.get id = H.get id) : Rep P (B.more μ X) w μ H2 w := by
  have key : ∀ id, H2.get id ≠ .dead → ¬ X id ∧ H2.get id = H.get id := fun id hd => by
    by_cases hx : X id
    · exact absurd (h1 id hx) hd
    · exact ⟨hx, h2 id hx⟩
  refine ⟨Stay.refl _ _, fun k hk => ?_, fun id hi => by rw [hn]; exact hr.n id hi, fun id hd => ?_, fun i j hij oi oj => ?_, fun i oi di => ?_, fun id hi => by rw [hn]; exact hr.rlt id hi, hr.rno⟩
  · rcases hk with hk | ⟨id, hx, rfl⟩
    · exact hr.base k hk
    · exact hr.lt (owns_live (hX id hx))
  · obtain ⟨hx, e⟩ := key id hd
    rw [e] at hd ⊢
    refine ⟨(hr.obj id hd).1, (hr.obj id hd).2.widen fun ho hb => ?_⟩
    rcases hb with hb | ⟨j, hj, ej⟩
    · exact (hr.obj id hd).2.ge ho hb
    · exact hr.inj j id (fun e => hx (e ▸ hj)) (hX j hj) ho ej
  · rw [(key i (owns_live oi)).2] at oi
    rw [(key j (owns_live oj)).2] at oj
    exact hr.inj i j hij oi oj
  · rw [(key i di).2] at oi di
    exact hr.ro i oi di
theorem Rep.unhide (hr : Rep P B w0 μ H w) {X : Nat → Prop} (hX : ∀ id, X id → (H.get id).owns = true) {μ2 : Mp} {H2 H3 : Mem} {w2 : World} (hr2 : Rep P (B.more μ X) w μ2 H2 w2) (hm : μ.le μ2) (hn : H3.next = H2.next) (h1 : ∀ id, X id → H3.get id = H.get id) (h2 : ∀ id, ¬ X id → H3.get id = H2.get id) : Rep P B w0 μ2 H3 w2 := by
  have hfx : ∀ id, X id → (μ2.f id).blk = (μ.f id).blk ∧ μ2.has id := fun id hx => by
    obtain ⟨a, b⟩ := hm id (hr.obj id (owns_live (hX id hx))).1
    exact ⟨by rw [b], a⟩
  have own2 : ∀ id, ¬ X id → (H3.get id).owns = true → ¬ (B.more μ X) (μ2.f id).blk := fun id hx ho => by
    rw [h2 id hx] at ho
    exact (hr2.obj id (owns_live ho)).2.ge ho
  refine ⟨hr.below.trans (hr2.below.mono fun k hk => .inl hk), fun k hk => Nat.lt_of_lt_of_le (hr.base k hk) hr2.below.size, fun id hi => by rw [hn]; exact hr2.n id hi, fun id hd => ?_, fun i j hij oi oj => ?_, fun i oi di => ?_, fun id hi => by rw [hn]; exact hr2.rlt id hi, hr2.rno⟩
  · by_cases hx : X id
    · rw [h1 id hx]
      have ho := hr.obj id (owns_live (hX id hx))
      refine ⟨(hfx id hx).2, ?_⟩
      rw [(hm id ho.1).2]
      exact ho.2.keep hm (hr2.below.block _ (.inr ⟨id, hx, rfl⟩))
    · rw [h2 id hx] at hd ⊢
      exact ⟨(hr2.obj id hd).1, (hr2.obj id hd).2.widen fun ho hb => (hr2.obj id hd).2.ge ho (.inl hb)⟩
  · by_cases hi : X i
    · by_cases hj : X j
      · rw [(hfx i hi).1, (hfx j hj).1]
        exact hr.inj i j hij (hX i hi) (hX j hj)
      · exact fun e => own2 j hj oj (.inr ⟨i, hi, by rw [← e, (hfx i hi).1]⟩)
    · by_cases hj : X j
      · exact fun e => own2 i hi oi (.inr ⟨j, hj, by rw [e, (hfx j hj).1]⟩)
      · rw [h2 i hi] at oi
        rw [h2 j hj] at oj
        exact hr2.inj i j hij oi oj
  · by_cases hi : X i
    · rw [h1 i hi, hX i hi] at oi; cases oi
    · rw [h2 i hi] at oi di
      exact hr2.ro i oi di
/-- Identifiers are kept free. -/
theorem Rep.keepFree (hr : Rep P B w0 μ H w) {R : Nat → Prop} {H2 : Mem} (hn : H.next ≤ H2.next) (hg : ∀ id, H2.get id = H.get id) (hR : ∀ id, R id → id < H2.next ∧ ¬ μ.has id) : Rep P ⟨B.on, B.ro, R, B.sub⟩ w0 μ H2 w := by
  have h2 := hr.less hn fun k => .inl (hg k)
  exact ⟨⟨h2.below.os, h2.below.tape, h2.below.output, h2.below.size, h2.below.block⟩, h2.base, h2.n, fun id hd => ⟨(h2.obj id hd).1, (h2.obj id hd).2.widen fun ho => (h2.obj id hd).2.ge ho⟩, h2.inj, h2.ro, fun id h => (hR id h).1, fun id h => (hR id h).2⟩
theorem Rep.setFree (hr : Rep P B w0 μ H w) {B' : Bd} (h1 : B'.on = B.on) (h2 : B'.ro = B.ro) (hR : ∀ id, B'.res id → id < H.next ∧ ¬ μ.has id) : Rep P B' w0 μ H w := by
  have hon : ∀ k, B' k ↔ B k := fun k => by rw [h1]
  exact ⟨⟨hr.below.os, hr.below.tape, hr.below.output, hr.below.size, fun k hk => hr.below.block k ((hon k).1 hk)⟩, fun k hk => hr.base k ((hon k).1 hk), hr.n, fun id hd => ⟨(hr.obj id hd).1, (hr.obj id hd).2.widen fun ho hb => (hr.obj id hd).2.ge ho ((hon _).1 hb)⟩, hr.inj, fun i oi di => by rw [h2]; exact hr.ro i oi di, fun id h => (hR id h).1, fun id h => (hR id h).2⟩
end
end Go.Fw
end
section
/- The framework, part Zb: regions that draw their order, in which allocations stand side by side with all else: definitions, and what the text's run gives. -/
namespace Go.Fw
open Go.RowKit

/-- More objects: what looks at memory finds the same. -/
theorem pureA_le {env : Tr} {H H' : Mem} (h : ∀ id, H.get id ≠ .dead → H'.get id = H.get id) {o : AOp} {v : AV} (hv : pureA env H o = some v) : pureA env H' o = some v := by
  have hm : ∀ {id l sz t own frz}, H.get id = .mem l sz t own frz → H'.get id = .mem l sz t own frz := fun e => by rw [h _ (by rw [e]; simp), e]
  have hp : ∀ {id l}, H.get id = .map l → H'.get id = .map l := fun e => by rw [h _ (by rw [e]; simp), e]
  cases o with
  | load agg n p =>
    simp only [pureA] at hv ⊢
    split at hv <;> try (cases hv; done)
    simp only [ld] at hv ⊢
    split at hv <;> try (cases hv; done)
    rw [hm ‹_›]; exact hv
  | conv c x =>
    cases c with
    | str =>
      simp only [pureA, strA] at hv ⊢
      split at hv <;> try (exact hv)
      split at hv <;> try (cases hv; done)
      rw [hm ‹_›]; exact hv
    | _ => exact hv
  | look z k ok m x =>
    simp only [pureA, lookVA] at hv ⊢
    split at hv <;> try (exact hv)
    split at hv <;> try (cases hv; done)
    rw [hp ‹_›]; exact hv
  | slV sz x lo hi mx =>
    simp only [pureA, slVA] at hv ⊢
    split at hv <;> try (exact hv)
    split at hv <;> try (cases hv; done)
    rw [hm ‹_›]; exact hv
  | slA n sz x lo hi =>
    simp only [pureA, slAA] at hv ⊢
    split at hv <;> try (cases hv; done)
    split at hv <;> try (cases hv; done)
    rw [hm ‹_›]; exact hv
  | lenM x =>
    simp only [pureA] at hv ⊢
    split at hv <;> try (exact hv)
    split at hv <;> try (cases hv; done)
    rw [hp ‹_›]; exact hv
  | _ => exact hv

inductive Kk where
  | fl | nw | ef
  deriving DecidableEq
def nNew : List AOper → Nat
  | [] => 0
  | o :: r => bif o.op.isNew then nNew r + 1 else nNew r
abbrev NW := Nat × Nat × AO
def puts : List NW → Mem → Mem
  | [], H => H
  | q :: r, H => puts r (H.put q.2.1 q.2.2)
def selM (p : Nat → Bool) (nw : List NW) (H : Mem) : Mem := puts (nw.filter fun q => p q.1) H
def minP (bi K : List Nat) (j : Nat) : Bool := memN j bi && !memN j K
structure Brec where
  v : AV
  k : Kk
  w : Bool
  env : Tr
structure Bout where
  recs : List Brec
  bs : List (Mem × List Nat)
  nw : List NW
  env : Tr
def Bout.add (b : Bout) (r : Brec) : Bout := { b with recs := r :: b.recs }
def Bout.adde (b : Bout) (r : Brec) (H : Mem) (K : List Nat) : Bout := { b with recs := r :: b.recs, bs := (H, K) :: b.bs }
/-- The region in its text's order, each operation in the least memory in which it may come. -/
def bgo (cf : CallF) (before : List (List Nat)) : List AOper → Nat → Nat → List NW → List Nat → Tr → Mem → Option Bout
  | [], _, _, nw, _, env, _ => some ⟨[], [], nw, env⟩
  | o :: r, i, id, nw, K, env, H =>
    match wantA env o.g with
    | false => putA env o.dst undefA fun en => (bgo cf before r (i + 1) (bif o.op.isNew then id + 1 else id) nw K en H).map fun b => b.add ⟨undefA, .fl, false, env⟩
    | true => match o.op.isNew with
      | true => match newAt env id o.op with
        | some (v, ob) => frcV o.op.deep v fun v => putA env o.dst v fun en => (bgo cf before r (i + 1) (id + 1) (nw ++ [(i, id, ob)]) K en H).map fun b => b.add ⟨v, .nw, true, env⟩
        | none => none
      | false => match o.op.kd with
        | .pure => match pureA env (selM (minP (before.getD i []) K) nw H) o.op with
          | some v => frcV o.op.deep v fun v => putA env o.dst v fun en => (bgo cf before r (i + 1) id nw K en H).map fun b => b.add ⟨v, .fl, true, env⟩
          | none => none
        | _ => match evOp cf env (selM (minP (before.getD i []) K) nw H) o.op with
          | some (v, H') => frcV o.op.deep v fun v => frcM H' fun H' => putA env o.dst v fun en => (bgo cf before r (i + 1) id nw (K ++ before.getD i []) en H').map fun b => b.adde ⟨v, .ef, true, env⟩ H' (K ++ before.getD i [])
          | none => none
def isEf : Kk → Bool
  | .ef => true
  | _ => false
/-- The effects' numbers. -/
def efs : List Brec → Nat → List Nat
  | [], _ => []
  | b :: r, i => bif isEf b.k then i :: efs r (i + 1) else efs r (i + 1)
def reads2 (before : List (List Nat)) (ws : List (Nat × Nat)) : List AOper → Nat → Bool
  | [], _ => true
  | o :: r, i => o.reads.all (fun p => ws.all fun w => !Nat.beq w.1 p || memN w.2 (before.getD i []) || memN i (before.getD w.2 [])) && (before.getD i []).all (fun j => Nat.blt j i) && reads2 before ws r (i + 1)
def isDead : AO → Bool
  | .dead => true
  | _ => false
def freeOK (bases : List (Mem × List Nat)) (nw : List NW) : Bool := bases.all fun b => nw.all fun q => memN q.1 b.2 || isDead (b.1.get q.2.1)
def float2 (before : List (List Nat)) (es : List Nat) (bases : List (Mem × List Nat)) (nw : List NW) : List AOper → List Brec → Nat → Bool
  | [], _, _ => true
  | o :: r, b :: bs, i => (bif o.op.looks && !o.op.effect && b.w then
      (((bases.drop (lowE (before.getD i []) es 0 0)).take (highE before i es 0 + 1 - lowE (before.getD i []) es 0 0)).all fun c => match pureA b.env (selM (minP (before.getD i []) c.2) nw c.1) o.op with | some u => sameV u b.v | none => false)
      else true) && float2 before es bases nw r bs (i + 1)
  | _ :: _, [], _ => false
def more (H : Mem) (n : Nat) : Mem := ⟨H.next + n, H.t, H.marks⟩
def lastB : (Mem × List Nat) → List (Mem × List Nat) → Mem × List Nat
  | b, [] => b
  | _, b :: r => lastB b r
def drB : DregF := fun cf al before env H =>
  match frcN (nNew al) fun n => bgo cf before al 0 H.next [] [] env (more H n) with
  | some out =>
    let bases := (more H (nNew al), []) :: out.bs
    let es := efs out.recs 0
    match chainOK before [] es && onceOK (writers al 0) && reads2 before (writers al 0) al 0 && freeOK bases out.nw && float2 before es bases out.nw al out.recs 0 with
    | true => match lastB (more H (nNew al), []) out.bs with
      | (He, K) => frcM (selM (fun j => !memN j K) out.nw He) fun H' => some (out.env, H')
    | false => none
  | none => none
/-! ### Memory with some of the allocations -/
theorem puts_next : ∀ (l : List NW) (H : Mem), (puts l H).next = H.next ∧ (puts l H).marks = H.marks
  | [], H => ⟨rfl, rfl⟩
  | q :: r, H => by simp only [puts]; exact ⟨(puts_next r _).1, (puts_next r _).2⟩
theorem puts_not : ∀ (l : List NW) (H : Mem) (id : Nat), (∀ q ∈ l, q.2.1 ≠ id) → (puts l H).get id = H.get id
  | [], _, _, _ => rfl
  | q :: r, H, id, h => by
    simp only [puts]
    rw [puts_not r _ id (fun q hq => h q (by simp [hq])), Mem.get_put, if_neg (fun e => h q (by simp) e.symm)]
theorem puts_mem : ∀ (l : List NW) (H : Mem) (q : NW), q ∈ l → (∀ a ∈ l, a.2.1 = q.2.1 → a = q) → (puts l H).get q.2.1 = q.2.2
  | [], _, _, h, _ => by cases h
  | a :: r, H, q, h, hu => by
    simp only [puts]
    by_cases hq : q ∈ r
    · exact puts_mem r _ q hq fun a ha => hu a (by simp [ha])
    · rcases List.mem_cons.1 h with rfl | h
      · rw [puts_not r _ _ (fun b hb e => hq (by rw [← hu b (by simp [hb]) e]; exact hb)), Mem.get_put, if_pos rfl]
      · exact absurd h hq
/-- Each identifier once. -/
def Uniq (nw : List NW) : Prop := ∀ a ∈ nw, ∀ b ∈ nw, a.2.1 = b.2.1 → a = b
theorem selM_next (p : Nat → Bool) (nw : List NW) (H : Mem) : (selM p nw H).next = H.next ∧ (selM p nw H).marks = H.marks := puts_next _ _
theorem selM_in {p : Nat → Bool} {nw : List NW} (hu : Uniq nw) (H : Mem) {q : NW} (hq : q ∈ nw) (hp : p q.1 = true) : (selM p nw H).get q.2.1 = q.2.2 :=
  puts_mem _ _ q (List.mem_filter.2 ⟨hq, hp⟩) fun a ha e => hu a (List.mem_filter.1 ha).1 q hq e
theorem selM_out {p : Nat → Bool} {nw : List NW} (H : Mem) {id : Nat} (h : ∀ q ∈ nw, p q.1 = true → q.2.1 ≠ id) : (selM p nw H).get id = H.get id :=
  puts_not _ _ _ fun q hq => h q (List.mem_filter.1 hq).1 (List.mem_filter.1 hq).2
theorem selM_cases {p : Nat → Bool} {nw : List NW} (hu : Uniq nw) (H : Mem) (id : Nat) : (∃ q ∈ nw, p q.1 = true ∧ q.2.1 = id ∧ (selM p nw H).get id = q.2.2) ∨ ((∀ q ∈ nw, p q.1 = true → q.2.1 ≠ id) ∧ (selM p nw H).get id = H.get id) := by
  by_cases h : ∃ q ∈ nw, p q.1 = true ∧ q.2.1 = id
  · obtain ⟨q, hq, hp, rfl⟩ := h
    exact .inl ⟨q, hq, hp, rfl, selM_in hu H hq hp⟩
  · refine .inr ⟨fun q hq hp e => h ⟨q, hq, hp, e⟩, selM_out H fun q hq hp e => h ⟨q, hq, hp, e⟩⟩
theorem selM_congr {p p' : Nat → Bool} {nw : List NW} (H : Mem) (h : ∀ q ∈ nw, p q.1 = p' q.1) : selM p nw H = selM p' nw H := by
  unfold selM
  rw [List.filter_congr h]
/-! ### What the run gives -/
def nF (l : List Brec) : Nat := (l.filter fun b => isEf b.k).length
structure Spec (cf : CallF) (before : List (List Nat)) (al : List AOper) (i0 id0 : Nat) (nw0 : List NW) (K0 : List Nat) (env : Tr) (H : Mem) (out : Bout) : Prop where
  len : out.recs.length = al.length
  blen : out.bs.length = nF out.recs
  last : lastB (H, K0) out.bs = (((H, K0) :: out.bs)[nF out.recs]?).getD (H, K0)
  keep : ∀ p, (∀ (j : Nat) (o : AOper), al[j]? = some o → o.dst ≠ some p) → out.env.get p = env.get p
  wrote : ∀ (j : Nat) (o : AOper) (p : Pth), al[j]? = some o → o.dst = some p → (∀ (j' : Nat) (o' : AOper), j < j' → al[j']? = some o' → o'.dst ≠ some p) → ∃ b, out.recs[j]? = some b ∧ out.env.get p = b.v
  nw : ∃ l, out.nw = nw0 ++ l ∧ (∀ q ∈ l, ∃ j o b, q.1 = i0 + j ∧ al[j]? = some o ∧ out.recs[j]? = some b ∧ b.k = .nw ∧ q.2.1 = id0 + nNew (al.take j) ∧ o.op.isNew = true) ∧ l.Pairwise fun a b => a.1 < b.1
  one : ∀ (i : Nat) (o : AOper), al[i]? = some o → ∃ b, out.recs[i]? = some b ∧
    (∀ p, (∀ (j : Nat) (o' : AOper), i ≤ j → al[j]? = some o' → o'.dst ≠ some p) → b.env.get p = out.env.get p) ∧
    (∀ p, (∀ (j : Nat) (o' : AOper), j < i → al[j]? = some o' → o'.dst ≠ some p) → b.env.get p = env.get p) ∧
    wantA b.env o.g = b.w ∧ (b.w = false → b.v = undefA ∧ b.k = .fl) ∧
    (b.w = true → ∃ Hc Kc, ((H, K0) :: out.bs)[nF (out.recs.take i)]? = some (Hc, Kc) ∧
      ((b.k = .nw ∧ o.op.isNew = true ∧ ∃ ob, newAt b.env (id0 + nNew (al.take i)) o.op = some (b.v, ob) ∧ (i0 + i, id0 + nNew (al.take i), ob) ∈ out.nw) ∨
       (b.k = .fl ∧ o.op.kd = .pure ∧ pureA b.env (selM (minP (before.getD (i0 + i) []) Kc) out.nw Hc) o.op = some b.v) ∨
       (b.k = .ef ∧ o.op.isNew = false ∧ ∃ H', evOp cf b.env (selM (minP (before.getD (i0 + i) []) Kc) out.nw Hc) o.op = some (b.v, H') ∧ ((H, K0) :: out.bs)[nF (out.recs.take (i + 1))]? = some (H', Kc ++ before.getD (i0 + i) []))))
theorem nF_cons (b : Brec) (l : List Brec) : nF (b :: l) = (bif isEf b.k then 1 else 0) + nF l := by
  cases h : isEf b.k <;> simp [nF, h, Nat.add_comm]
theorem filter_ext {bi K : List Nat} {nw l : List NW} (hl : ∀ q ∈ l, q.1 ∉ bi) (H : Mem) : selM (minP bi K) (nw ++ l) H = selM (minP bi K) nw H := by
  unfold selM
  rw [List.filter_append]
  have : l.filter (fun q => minP bi K q.1) = [] := List.filter_eq_nil_iff.2 fun q hq h => by
    simp only [minP, Bool.and_eq_true] at h
    exact hl q hq ((memN_iff _ _).1 h.1)
  rw [this, List.append_nil]
theorem putE_ne {env : Tr} {d : Option Pth} {v : AV} {p : Pth} (h : d ≠ some p) : (putE env d v).get p = env.get p := by
  cases d with
  | none => rfl
  | some d => exact Tr.get_set_ne _ _ _ _ (fun e => h (by rw [e]))
theorem bgo_spec (cf : CallF) (before : List (List Nat)) (hb : ∀ i, ∀ j ∈ before.getD i [], j < i) : ∀ (al : List AOper) (i0 id0 : Nat) (nw0 : List NW) (K0 : List Nat) (env : Tr) (H : Mem) (out : Bout), bgo cf before al i0 id0 nw0 K0 env H = some out → Spec cf before al i0 id0 nw0 K0 env H out := by
  intro al
  induction al with
  | nil =>
    intro i0 id0 nw0 K0 env H out h
    simp only [bgo, Option.some.injEq] at h
    subst h
    exact ⟨rfl, rfl, rfl, fun _ _ => rfl, fun j o p h => by simp at h, ⟨[], by simp, by simp, List.Pairwise.nil⟩, fun i o h => by simp at h⟩
  | cons o r ih =>
    intro i0 id0 nw0 K0 env H out h
    -- all arms alike
    have key : ∀ (b : Brec) (nw1 : List NW) (K1 : List Nat) (H1 : Mem) (sub : Bout), bgo cf before r (i0 + 1) (bif o.op.isNew then id0 + 1 else id0) nw1 K1 (putE env o.dst b.v) H1 = some sub →
        out = ⟨b :: sub.recs, (bif isEf b.k then (H1, K1) :: sub.bs else sub.bs), sub.nw, sub.env⟩ → (isEf b.k = false → H1 = H ∧ K1 = K0) → b.env = env → wantA env o.g = b.w → (b.w = false → b.v = undefA ∧ b.k = .fl) →
        (∃ x, nw1 = nw0 ++ x ∧ (∀ q ∈ x, q.1 = i0 ∧ b.k = .nw ∧ q.2.1 = id0 ∧ o.op.isNew = true) ∧ x.Pairwise fun a b => a.1 < b.1) →
        (b.w = true → (b.k = .nw ∧ o.op.isNew = true ∧ ∃ ob, newAt env id0 o.op = some (b.v, ob) ∧ (i0, id0, ob) ∈ nw1) ∨ (b.k = .fl ∧ o.op.kd = .pure ∧ pureA env (selM (minP (before.getD i0 []) K0) nw0 H) o.op = some b.v) ∨
          (b.k = .ef ∧ o.op.isNew = false ∧ evOp cf env (selM (minP (before.getD i0 []) K0) nw0 H) o.op = some (b.v, H1) ∧ K1 = K0 ++ before.getD i0 [])) →
        Spec cf before (o :: r) i0 id0 nw0 K0 env H out := by
      intro b nw1 K1 H1 sub hs ho hne henv hw hwf hnw hop
      have S := ih _ _ _ _ _ _ _ hs
      subst ho
      have hcount : nF (b :: sub.recs) = (bif isEf b.k then 1 else 0) + nF sub.recs := nF_cons _ _
      have hid : ∀ j, id0 + nNew ((o :: r).take (j + 1)) = (bif o.op.isNew then id0 + 1 else id0) + nNew (r.take j) := fun j => by
        simp only [List.take_succ_cons, nNew]
        cases o.op.isNew <;> simp <;> omega
      have shift : ∀ k, ((H, K0) :: (bif isEf b.k then (H1, K1) :: sub.bs else sub.bs))[(bif isEf b.k then 1 else 0) + k]? = ((H1, K1) :: sub.bs)[k]? := fun k => by
        cases hk : isEf b.k with
        | true => simp [Nat.add_comm 1 k]
        | false => obtain ⟨rfl, rfl⟩ := hne hk; simp
      obtain ⟨l, hl, hlq, hlp⟩ := S.nw
      obtain ⟨x, hx, hxq, hxp⟩ := hnw
      have hnw_out : sub.nw = nw0 ++ (x ++ l) := by rw [hl, hx, List.append_assoc]
      have hbig : ∀ q ∈ x ++ l, q.1 ∉ before.getD i0 [] := fun q hq hm => by
        have hlt := hb _ _ hm
        rcases List.mem_append.1 hq with hq | hq
        · have := (hxq q hq).1; omega
        · obtain ⟨j, _, _, e, _⟩ := hlq q hq; omega
      refine ⟨by simp [S.len], ?_, ?_, ?_, ?_, ⟨x ++ l, hnw_out, fun q hq => ?_, List.pairwise_append.2 ⟨hxp, hlp, fun a ha b hb => by have := (hxq a ha).1; obtain ⟨j, _, _, e, _⟩ := hlq b hb; omega⟩⟩, ?_⟩
      · rw [hcount]; cases isEf b.k <;> simp [S.blen, Nat.add_comm]
      · rw [hcount, shift, ← S.blen]
        have hlast := S.last
        rw [← S.blen] at hlast
        have hin : ((H1, K1) :: sub.bs)[sub.bs.length]? = some (((H1, K1) :: sub.bs)[sub.bs.length]'(by simp)) := List.getElem?_eq_getElem _
        cases hk : isEf b.k with
        | true => simp only [cond_true, lastB]; rw [hlast, hin]; rfl
        | false =>
          obtain ⟨rfl, rfl⟩ := hne hk
          simp only [cond_false]; exact hlast
      · intro p hp
        rw [S.keep p (fun j o' hj => hp (j + 1) o' (by simpa using hj)), putE_ne (hp 0 o rfl)]
      · intro j o' p hj hdst hlast
        cases j with
        | zero =>
          simp at hj; subst hj
          refine ⟨b, rfl, ?_⟩
          rw [S.keep p (fun j o'' hj2 => hlast (j + 1) o'' (by omega) (by simpa using hj2)), hdst]
          exact Tr.get_set_same _ _ _
        | succ j =>
          obtain ⟨b', hb', he⟩ := S.wrote j o' p (by simpa using hj) hdst (fun j' o'' hlt hj' => hlast (j' + 1) o'' (by omega) (by simpa using hj'))
          exact ⟨b', by simpa using hb', he⟩
      · rcases List.mem_append.1 hq with hq | hq
        · obtain ⟨e1, e2, e3, e4⟩ := hxq q hq
          exact ⟨0, o, b, by omega, rfl, rfl, e2, by simp [nNew, e3], e4⟩
        · obtain ⟨j, o', b', e1, e2, e3, e4, e5, e6⟩ := hlq q hq
          exact ⟨j + 1, o', b', by omega, by simpa using e2, by simpa using e3, e4, by rw [hid]; exact e5, e6⟩
      · intro i o' hi
        cases i with
        | zero =>
          simp at hi; subst hi
          refine ⟨b, rfl, fun p hp => ?_, fun p _ => by rw [henv], by rw [henv]; exact hw, hwf, fun hbw => ⟨H, K0, by simp [nF], ?_⟩⟩
          · rw [henv, S.keep p (fun j o'' hj2 => hp (j + 1) o'' (by omega) (by simpa using hj2)), putE_ne (hp 0 o (by omega) rfl)]
          · simp only [Nat.add_zero, List.take_zero, nNew, hnw_out]
            rw [henv]
            rcases hop hbw with ⟨h1, h2, ob, h3, h4⟩ | ⟨h1, h2, h3⟩ | ⟨h1, h2, h3, h4⟩
            · exact .inl ⟨h1, h2, ob, h3, by rw [← List.append_assoc, ← hx]; simp [h4]⟩
            · exact .inr (.inl ⟨h1, h2, by rw [filter_ext hbig]; exact h3⟩)
            · refine .inr (.inr ⟨h1, h2, H1, by rw [filter_ext hbig]; exact h3, ?_⟩)
              have := shift 0
              simp only [h1, isEf, cond_true, Nat.add_zero, List.getElem?_cons_zero] at this
              simp only [List.take_succ_cons, List.take_zero, nF_cons, h1, isEf, cond_true]
              rw [show nF ([] : List Brec) = 0 from rfl, Nat.add_zero, this, h4]
        | succ i =>
          obtain ⟨b', k1, k2, k3, k4, k5, k6⟩ := S.one i o' (by simpa using hi)
          refine ⟨b', by simpa using k1, fun p hp => k2 p fun j o'' hle hj => hp (j + 1) o'' (by omega) (by simpa using hj), fun p hp => ?_, k4, k5, fun hbw => ?_⟩
          · rw [k3 p (fun j o'' hlt hj => hp (j + 1) o'' (by omega) (by simpa using hj)), putE_ne (hp 0 o (by omega) rfl)]
          · obtain ⟨Hc, Kc, c1, c2⟩ := k6 hbw
            have e1 : i0 + 1 + i = i0 + (i + 1) := by omega
            rw [e1] at c2
            refine ⟨Hc, Kc, by simp only [List.take_succ_cons, nF_cons, shift]; exact c1, ?_⟩
            rcases c2 with ⟨h1, h2, ob, h3, h4⟩ | h | ⟨h1, h2, H', h3, h4⟩
            · rw [← hid] at h3 h4
              exact .inl ⟨h1, h2, ob, h3, h4⟩
            · exact .inr (.inl h)
            · exact .inr (.inr ⟨h1, h2, H', h3, by simp only [List.take_succ_cons, nF_cons, shift]; simpa using h4⟩)
    simp only [bgo] at h
    split at h
    · rename_i hwant
      rw [putA_eq] at h
      obtain ⟨sub, hs, rfl⟩ := Option.map_eq_some_iff.1 h
      exact key ⟨undefA, .fl, false, env⟩ nw0 K0 H sub hs rfl (fun _ => ⟨rfl, rfl⟩) rfl hwant (fun _ => ⟨rfl, rfl⟩) ⟨[], by simp, by simp, List.Pairwise.nil⟩ (fun e => by cases e)
    · rename_i hwant
      split at h
      · rename_i hnew
        split at h <;> try (cases h; done)
        rename_i v ob hv
        rw [frcV_eq, putA_eq] at h
        obtain ⟨sub, hs, rfl⟩ := Option.map_eq_some_iff.1 h
        exact key ⟨v, .nw, true, env⟩ (nw0 ++ [(i0, id0, ob)]) K0 H sub (by rw [hnew]; exact hs) rfl (fun _ => ⟨rfl, rfl⟩) rfl hwant (fun e => by cases e) ⟨_, rfl, fun q hq => by simp at hq; subst hq; exact ⟨rfl, rfl, rfl, hnew⟩, List.pairwise_singleton _ _⟩ (fun _ => .inl ⟨rfl, hnew, ob, hv, by simp⟩)
      · rename_i hnew
        split at h
        · rename_i hkd
          split at h <;> try (cases h; done)
          rename_i v hv
          rw [frcV_eq, putA_eq] at h
          obtain ⟨sub, hs, rfl⟩ := Option.map_eq_some_iff.1 h
          exact key ⟨v, .fl, true, env⟩ nw0 K0 H sub (by rw [hnew]; exact hs) rfl (fun _ => ⟨rfl, rfl⟩) rfl hwant (fun e => by cases e) ⟨[], by simp, by simp, List.Pairwise.nil⟩ (fun _ => .inr (.inl ⟨rfl, hkd, hv⟩))
        · split at h <;> try (cases h; done)
          rename_i v H' hv
          rw [frcV_eq, frcM_eq, putA_eq] at h
          obtain ⟨sub, hs, rfl⟩ := Option.map_eq_some_iff.1 h
          exact key ⟨v, .ef, true, env⟩ nw0 (K0 ++ before.getD i0 []) H' sub (by rw [hnew]; exact hs) rfl (fun e => by cases e) rfl hwant (fun e => by cases e) ⟨[], by simp, by simp, List.Pairwise.nil⟩ (fun _ => .inr (.inr ⟨rfl, hnew, hv, rfl⟩))
end Go.Fw
end
section
/- The framework, part Zc: a region that draws its order, with allocations side by side with all else, does what its text's run gives: the theorem. -/
namespace Go.Fw
open Go.RowKit

theorem efs_get : ∀ (l : List Brec) (i0 j : Nat) (b : Brec), l[j]? = some b → isEf b.k = true → (efs l i0)[nF (l.take j)]? = some (i0 + j)
  | [], i0, j, b, h, _ => by simp at h
  | x :: l, i0, 0, b, h, he => by
    simp at h; subst h
    simp [efs, nF, he]
  | x :: l, i0, j + 1, b, h, he => by
    have ih := efs_get l (i0 + 1) j b (by simpa using h) he
    rw [show i0 + (j + 1) = i0 + 1 + j by omega, List.take_succ_cons, nF_cons]
    simp only [efs]
    cases hx : isEf x.k with
    | true => simp only [cond_true, Nat.add_comm 1, List.getElem?_cons_succ]; exact ih
    | false => simp only [cond_false, Nat.zero_add]; exact ih
theorem efs_of : ∀ (l : List Brec) (i0 k e : Nat), (efs l i0)[k]? = some e → ∃ j b, e = i0 + j ∧ l[j]? = some b ∧ isEf b.k = true ∧ nF (l.take j) = k
  | [], i0, k, e, h => by simp [efs] at h
  | x :: l, i0, k, e, h => by
    simp only [efs] at h
    cases hx : isEf x.k with
    | true =>
      simp only [hx, cond_true] at h
      cases k with
      | zero => simp at h; exact ⟨0, x, by omega, rfl, hx, rfl⟩
      | succ k =>
        obtain ⟨j, b, h1, h2, h3, h4⟩ := efs_of l (i0 + 1) k e (by simpa using h)
        exact ⟨j + 1, b, by omega, by simpa using h2, h3, by rw [List.take_succ_cons, nF_cons, hx, h4]; simp [Nat.add_comm]⟩
    | false =>
      simp only [hx, cond_false] at h
      obtain ⟨j, b, h1, h2, h3, h4⟩ := efs_of l (i0 + 1) k e h
      exact ⟨j + 1, b, by omega, by simpa using h2, h3, by rw [List.take_succ_cons, nF_cons, hx, h4]; simp⟩
theorem efs_length (l : List Brec) (i0 : Nat) : (efs l i0).length = nF l := by
  induction l generalizing i0 with
  | nil => rfl
  | cons x l ih => cases hx : isEf x.k <;> simp [efs, nF_cons, hx, ih, Nat.add_comm]
theorem nF_succ {l : List Brec} {i : Nat} {b : Brec} (h : l[i]? = some b) : nF (l.take (i + 1)) = nF (l.take i) + (if isEf b.k then 1 else 0) := by
  rw [List.take_add_one, h]
  simp only [nF, Option.toList_some, List.filter_append, List.length_append]
  cases he : isEf b.k <;> simp [he]
theorem nNew_lt : ∀ (al : List AOper) (i j : Nat) (o : AOper), al[i]? = some o → o.op.isNew = true → i < j → nNew (al.take i) < nNew (al.take j)
  | [], i, j, o, h, _, _ => by simp at h
  | x :: al, 0, j + 1, o, h, hn, _ => by simp at h; subst h; simp [nNew, hn]
  | x :: al, i + 1, j + 1, o, h, hn, hl => by
    have := nNew_lt al i j o (by simpa using h) hn (by omega)
    simp only [List.take_succ_cons, nNew]
    cases x.op.isNew <;> simp <;> omega
  | x :: al, i, 0, o, h, _, hl => by omega
theorem nNew_le : ∀ (al : List AOper) (i : Nat) (o : AOper), al[i]? = some o → o.op.isNew = true → nNew (al.take i) < nNew al
  | [], i, o, h, _ => by simp at h
  | x :: al, 0, o, h, hn => by simp at h; subst h; simp [nNew, hn]
  | x :: al, i + 1, o, h, hn => by
    have := nNew_le al i o (by simpa using h) hn
    simp only [List.take_succ_cons, nNew]
    cases x.op.isNew <;> simp <;> omega
theorem reads2_get (before : List (List Nat)) (ws : List (Nat × Nat)) : ∀ (al : List AOper) (i0 : Nat), reads2 before ws al i0 = true → ∀ (j : Nat) (o : AOper), al[j]? = some o → (∀ p ∈ o.reads, ∀ w ∈ ws, w.1 = p → w.2 ∈ before.getD (i0 + j) [] ∨ i0 + j ∈ before.getD w.2 []) ∧ ∀ k ∈ before.getD (i0 + j) [], k < i0 + j
  | [], i0, h, j, o, hj => by simp at hj
  | x :: al, i0, h, j, o, hj => by
    simp only [reads2, Bool.and_eq_true, List.all_eq_true] at h
    obtain ⟨⟨h1, h2⟩, h3⟩ := h
    cases j with
    | zero =>
      simp at hj; subst hj
      refine ⟨fun p hp w hw he => ?_, fun k hk => ?_⟩
      · have := h1 p hp w hw
        simp only [beqN, he, decide_true, Bool.not_true, Bool.false_or, Bool.or_eq_true, memN_iff] at this
        exact this
      · have := h2 k hk
        rw [bltN] at this; simpa using this
    | succ j =>
      have := reads2_get before ws al (i0 + 1) h3 j o (by simpa using hj)
      rw [show i0 + 1 + j = i0 + (j + 1) by omega] at this
      exact this
theorem float2_get (before : List (List Nat)) (es : List Nat) (bases : List (Mem × List Nat)) (nw : List NW) : ∀ (al : List AOper) (rs : List Brec) (i0 : Nat), float2 before es bases nw al rs i0 = true → ∀ (j : Nat) (o : AOper) (b : Brec), al[j]? = some o → rs[j]? = some b → o.op.looks = true → o.op.effect = false → b.w = true →
    ∀ (c : Nat) (H : Mem) (K : List Nat), lowE (before.getD (i0 + j) []) es 0 0 ≤ c → c ≤ highE before (i0 + j) es 0 → bases[c]? = some (H, K) → pureA b.env (selM (minP (before.getD (i0 + j) []) K) nw H) o.op = some b.v
  | [], rs, i0, h, j, o, b, hj, _, _, _, _ => by simp at hj
  | o0 :: al, [], i0, h, j, o, b, hj, hv, _, _, _ => by simp at hv
  | o0 :: al, b0 :: rs, i0, h, j, o, b, hj, hv, hl, he, hw => by
    simp only [float2, Bool.and_eq_true] at h
    obtain ⟨h1, h2⟩ := h
    cases j with
    | zero =>
      simp at hj hv; subst hj hv
      intro c H K hlo hhi hc
      simp only [hl, he, hw, Bool.not_false, Bool.and_self, cond_true] at h1
      simp only [Nat.add_zero] at hlo hhi ⊢
      have hmem : (H, K) ∈ ((bases.drop (lowE (before.getD i0 []) es 0 0)).take (highE before i0 es 0 + 1 - lowE (before.getD i0 []) es 0 0)) := by
        refine List.mem_of_getElem? (i := c - lowE (before.getD i0 []) es 0 0) ?_
        rw [List.getElem?_take_of_lt (by omega), List.getElem?_drop]
        rw [show lowE (before.getD i0 []) es 0 0 + (c - lowE (before.getD i0 []) es 0 0) = c by omega]; exact hc
      have := List.all_eq_true.1 h1 (H, K) hmem
      simp only at this
      split at this
      · rename_i u hu
        rw [hu, sameV_eq _ _ this]
      · cases this
    | succ j =>
      have := float2_get before es bases nw al rs (i0 + 1) h2 j o b (by simpa using hj) (by simpa using hv) hl he hw
      rw [show i0 + 1 + j = i0 + (j + 1) by omega] at this
      exact this
theorem newAt_owns {env : Tr} {id : Nat} {o : AOp} (h : o.isNew = true) {v : AV} {ob : AO} (hv : newAt env id o = some (v, ob)) : ob.owns = true := by
  unfold newAt at hv
  split at hv <;> simp at hv
  rename_i v' H' he
  obtain ⟨ob', h1, h2, h3⟩ := newAt_eff (H := ⟨id, .e, []⟩) h he
  obtain ⟨rfl, rfl⟩ := hv
  rw [h2, getp]; exact h3
end Go.Fw
end
section
/- The framework, part Zd: a region that draws its order, with allocations side by side with all else, does what its text's run gives: the theorem. -/
namespace Go.Fw
open Go.RowKit
section
variable {P : Program} {w0 : World}
/-- The identifiers of allocations that are still to come are kept free. -/
def Bd.till (B : Bd) (nw : List NW) (listed : Array Bool) : Bd := ⟨B.on, B.ro, fun id => B.res id ∨ ∃ q ∈ nw, q.2.1 = id ∧ listed.getD q.1 false = false, B.sub⟩
def stP (listed : Array Bool) (K : List Nat) (j : Nat) : Bool := listed.getD j false && !memN j K
theorem dregB_ok (hm : P.follows .mixedOrders = true) : DregOK P drB := by
  intro cf hcf B w0 N rd r n id ops al a env H w μ env' H' Q hal hr hg he hd hv hQ
  refine wpIn_region_any hm ?_
  unfold drB at hv
  rw [frcN_eq] at hv
  split at hv <;> try (simp at hv; done)
  rename_i out hbgo
  simp only at hv
  split at hv <;> try (simp at hv; done)
  rename_i hstat
  simp only [frcM_eq, Option.some.injEq, Prod.mk.injEq] at hv
  obtain ⟨rfl, rfl⟩ := hv
  simp only [Bool.and_eq_true] at hstat
  obtain ⟨⟨⟨⟨hchain, honce⟩, hreads⟩, hfree⟩, hfl⟩ := hstat
  obtain ⟨m1, m2⟩ := mapO_get hal
  simp only [Array.length_toList] at m1
  generalize hbe : beforeL ops.toList [] = before at *
  have hblt : ∀ i, ∀ j ∈ before.getD i [], j < i := fun i j hj => by
    rcases Nat.lt_or_ge i al.length with hlt | hge
    · have := (reads2_get before (writers al 0) al 0 hreads i al[i] (List.getElem?_eq_getElem hlt)).2 j (by simpa using hj)
      omega
    · exfalso
      have hlen : before.length = al.length := by
        have key : ∀ (l : List Oper) (acc : List (List Nat)), (beforeL l acc).length = acc.length + l.length := fun l => by
          induction l with
          | nil => intro acc; simp [beforeL]
          | cons o l ih => intro acc; simp only [beforeL, ih, List.length_append, List.length_cons, List.length_nil]; omega
        rw [← hbe, key]; simp [m1]
      rw [List.getD_eq_getElem?_getD, List.getElem?_eq_none (by omega)] at hj
      cases hj
  have S := bgo_spec cf before hblt al 0 H.next [] [] env (more H (nNew al)) out hbgo
  generalize hes : efs out.recs 0 = es at *
  have esl : es.length = nF out.recs := by rw [← hes]; exact efs_length _ 0
  generalize hbs : ((more H (nNew al), []) : Mem × List Nat) :: out.bs = bases at *
  have hbl : bases.length = es.length + 1 := by rw [← hbs, esl]; simp [S.blen]
  have beg : ∀ (i : Nat) (o : Oper), ops[i]? = some o → ∀ j ∈ before.getD i [], ∃ e ∈ o.after.toList, Region.binds .any e = true ∧ (j = e.on ∨ j ∈ before.getD e.on []) := fun i o ho j hj => by
    have := beforeL_get ops.toList [] i o (by rw [Array.getElem?_toList]; exact ho) j (by rw [hbe]; simpa using hj)
    rwa [hbe] at this
  have bed : ∀ (i : Nat) (o : Oper), ops[i]? = some o → ∀ e ∈ o.after.toList, Region.binds .any e = true → e.on ∈ before.getD i [] := fun i o ho e he hb => by
    have := beforeL_direct ops.toList [] i o (by rw [Array.getElem?_toList]; exact ho) e he hb
    rw [hbe] at this; simpa using this
  have alg : ∀ (i : Nat) (o : Oper), ops[i]? = some o → ∃ ao, compOper P N ops o = some ao ∧ al[i]? = some ao := fun i o ho => m2 i o (by rw [Array.getElem?_toList]; exact ho)
  have rdg : ∀ (i : Nat) (o : AOper), al[i]? = some o → ∀ p ∈ o.reads, ∀ w ∈ writers al 0, w.1 = p → w.2 ∈ before.getD i [] ∨ i ∈ before.getD w.2 [] := fun i o ho => by
    have := (reads2_get before (writers al 0) al 0 hreads i o ho).1
    simpa using this
  have once : ∀ (j j' : Nat) (o o' : AOper) (p : Pth), al[j]? = some o → al[j']? = some o' → o.dst = some p → o'.dst = some p → j = j' := once_get al 0 honce
  have allt : ∀ i, i < ops.size → ∃ o, ops[i]? = some o := fun i hi => ⟨ops[i], Array.getElem?_eq_getElem hi⟩
  -- the allocations
  obtain ⟨nl, hnl, hnq, hnp⟩ := S.nw
  simp only [List.nil_append] at hnl
  have nwq : ∀ q ∈ out.nw, ∃ o b, al[q.1]? = some o ∧ out.recs[q.1]? = some b ∧ b.k = .nw ∧ q.2.1 = H.next + nNew (al.take q.1) ∧ o.op.isNew = true := fun q hq => by
    rw [hnl] at hq
    obtain ⟨j, o, b, e1, e2, e3, e4, e5, e6⟩ := hnq q hq
    have : j = q.1 := by omega
    subst this; exact ⟨o, b, e2, e3, e4, e5, e6⟩
  have nwid : ∀ a ∈ out.nw, ∀ b ∈ out.nw, a.2.1 = b.2.1 → a.1 = b.1 := fun a ha b hb e => by
    obtain ⟨oa, _, h1, _, _, h2, h3⟩ := nwq a ha
    obtain ⟨ob, _, h4, _, _, h5, h6⟩ := nwq b hb
    rcases Nat.lt_trichotomy a.1 b.1 with h | h | h
    · have := nNew_lt al _ _ oa h1 h3 h; omega
    · exact h
    · have := nNew_lt al _ _ ob h4 h6 h; omega
  have one := S.one
  simp only [Nat.zero_add] at one
  have nwob : ∀ q ∈ out.nw, ∃ o b, al[q.1]? = some o ∧ out.recs[q.1]? = some b ∧ b.k = .nw ∧ o.op.isNew = true ∧ q.2.1 = H.next + nNew (al.take q.1) ∧ b.w = true := fun q hq => by
    obtain ⟨o, b, h1, h2, h3, h4, h5⟩ := nwq q hq
    obtain ⟨b', k1, _, _, _, k5, _⟩ := one q.1 o h1
    rw [h2] at k1; injection k1 with k1; subst k1
    refine ⟨o, b, h1, h2, h3, h5, h4, ?_⟩
    cases hw : b.w with
    | true => rfl
    | false => have := (k5 hw).2; rw [h3] at this; cases this
  have hu : Uniq out.nw := fun a ha b hb e => by
    have h1 := nwid a ha b hb e
    rw [hnl] at ha hb
    exact Classical.byContradiction fun hne => by
      have key : ∀ (l : List NW), l.Pairwise (fun a b => a.1 < b.1) → a ∈ l → b ∈ l → a.1 = b.1 → a = b := fun l => by
        induction l with
        | nil => intro _ h; cases h
        | cons x l ih =>
          intro hp g1 g2 he
          obtain ⟨hx, hp⟩ := List.pairwise_cons.1 hp
          rcases List.mem_cons.1 g1 with e1 | k1
          · rcases List.mem_cons.1 g2 with e2 | k2
            · rw [e1, e2]
            · have := hx _ k2; rw [← e1] at this; omega
          · rcases List.mem_cons.1 g2 with e2 | k2
            · have := hx _ k1; rw [← e2] at this; omega
            · exact ih hp k1 k2 he
      exact hne (key nl hnp ha hb h1)
  have nwown : ∀ q ∈ out.nw, q.2.2.owns = true := fun q hq => by
    obtain ⟨o, b, h1, h2, h3, h4, h5, h6⟩ := nwob q hq
    obtain ⟨b', k1, _, _, _, _, k6⟩ := one q.1 o h1
    rw [h2] at k1; injection k1 with k1; subst k1
    obtain ⟨Hc, Kc, _, c2⟩ := k6 h6
    rcases c2 with ⟨_, hn, ob, hv, hmem⟩ | ⟨h, _⟩ | ⟨h, _⟩
    · have := hu q hq _ hmem (by simp only; omega)
      rw [this]; exact newAt_owns hn hv
    · rw [h3] at h; cases h
    · rw [h3] at h; cases h
  have nwlt : ∀ q ∈ out.nw, q.1 < ops.size := fun q hq => by
    obtain ⟨o, b, h1, _⟩ := nwq q hq
    have := (List.getElem?_eq_some_iff.1 h1).1; omega
  -- the bases
  have based : ∀ (c : Nat) (Hc : Mem) (Kc : List Nat), bases[c]? = some (Hc, Kc) → ∀ j ∈ Kc, ∃ (k e : Nat), k < c ∧ es[k]? = some e ∧ j ∈ before.getD e [] := fun c => by
    induction c with
    | zero =>
      intro Hc Kc h j hj
      rw [← hbs] at h
      simp at h; obtain ⟨_, rfl⟩ := h; cases hj
    | succ c ih =>
      intro Hc Kc h j hj
      have hc : c < es.length := by have := (List.getElem?_eq_some_iff.1 h).1; omega
      obtain ⟨i, b, e1, e2, e3, e4⟩ := efs_of out.recs 0 c es[c] (by rw [hes]; exact List.getElem?_eq_getElem hc)
      have hi : i < al.length := by have := (List.getElem?_eq_some_iff.1 e2).1; rw [S.len] at this; exact this
      obtain ⟨b', k1, _, _, _, k5, k6⟩ := one i al[i] (List.getElem?_eq_getElem hi)
      rw [e2] at k1; injection k1 with k1; subst k1
      have hw : b.w = true := by
        cases hw : b.w with
        | true => rfl
        | false => have := (k5 hw).2; rw [this] at e3; cases e3
      obtain ⟨Hp, Kp, c1, c2⟩ := k6 hw
      rw [hbs] at c1 c2
      rcases c2 with ⟨h, _⟩ | ⟨h, _⟩ | ⟨_, _, H', _, hnx⟩
      · rw [h] at e3; cases e3
      · rw [h] at e3; cases e3
      · rw [nF_succ e2, e3, e4] at hnx
        simp only [if_true] at hnx
        rw [h] at hnx; injection hnx with hnx; injection hnx with hx1 hx2
        subst hx1; subst hx2
        rw [e4] at c1
        rcases List.mem_append.1 hj with hj | hj
        · obtain ⟨k, e, h1, h2, h3⟩ := ih _ _ c1 j hj
          exact ⟨k, e, by omega, h2, h3⟩
        · exact ⟨c, es[c], by omega, List.getElem?_eq_getElem hc, by rw [e1]; simpa using hj⟩
  have freed : ∀ (c : Nat) (Hc : Mem) (Kc : List Nat), bases[c]? = some (Hc, Kc) → ∀ q ∈ out.nw, q.1 ∉ Kc → Hc.get q.2.1 = .dead := fun c Hc Kc h q hq hk => by
    have := List.all_eq_true.1 (List.all_eq_true.1 hfree _ (List.mem_of_getElem? h)) q hq
    simp only [Bool.or_eq_true] at this
    rcases this with h | h
    · exact absurd ((memN_iff _ _).1 h) hk
    · cases hd : Hc.get q.2.1 <;> simp [hd, isDead] at h; rfl
  -- the main induction
  have key : ∀ (fuel : Nat) (rem : List Nat) (listed : Array Bool) (a1 : Act) (w1 : World) (c : Nat) (μ1 : Mp) (E : Tr) (Hc : Mem) (Kc : List Nat), rem.length = fuel → (∀ j, j ∈ rem ↔ j < ops.size ∧ listed.getD j false = false) → rem.Nodup → listed.size = ops.size →
      bases[c]? = some (Hc, Kc) → μ.le μ1 → Rep P (B.till out.nw listed) w0 μ1 (selM (stP listed Kc) out.nw Hc) w1 → ER μ1 N E a1.tmps → DR rd μ1 (selM (stP listed Kc) out.nw Hc) a1 →
      (∀ i, listed.getD i false = true → ∀ j ∈ before.getD i [], listed.getD j false = true) →
      (∀ (k e : Nat), es[k]? = some e → (listed.getD e false = true ↔ k < c)) → c ≤ es.length →
      (∀ (j : Nat) (o : AOper) (p : Pth), listed.getD j false = true → al[j]? = some o → o.dst = some p → E.get p = out.env.get p) →
      (∀ p, (∀ (j : Nat) (o : AOper), listed.getD j false = true → al[j]? = some o → o.dst ≠ some p) → E.get p = env.get p) →
      wpAnyIn (Fr r) n P .any ops Q fuel listed a1 w1 := by
    intro fuel
    induction fuel with
    | zero =>
      intro rem listed a1 w1 c μ1 E Hc Kc hrl hrm hnd hsz hC hm1 hr1 he1 hd1 hcl hes1 hcle hE1 hE2
      have hall : ∀ j, j < ops.size → listed.getD j false = true := fun j hj => by
        cases hx : listed.getD j false with
        | true => rfl
        | false =>
          have := (hrm j).2 ⟨hj, hx⟩
          rw [List.eq_nil_of_length_eq_zero hrl] at this; cases this
      have fin : Q .normal a1 w1 := by
        have hc : c = es.length := by
          rcases Nat.lt_or_ge c es.length with hlt | hge
          · have h1 := (hes1 c es[c] (List.getElem?_eq_getElem hlt)).1 (by
              obtain ⟨j, b, e1, e2, _⟩ := efs_of out.recs 0 c es[c] (by rw [hes]; exact List.getElem?_eq_getElem hlt)
              refine hall _ ?_
              have := (List.getElem?_eq_some_iff.1 e2).1
              rw [S.len] at this; rw [e1]; omega)
            omega
          · omega
        have hlast := S.last
        rw [hbs, ← esl, ← hc, hC] at hlast
        simp only [Option.getD_some] at hlast
        rw [hlast] at hQ
        simp only at hQ
        have hsel : selM (stP listed Kc) out.nw Hc = selM (fun j => !memN j Kc) out.nw Hc := selM_congr _ fun q hq => by
          simp only [stP, hall q.1 (nwlt q hq), Bool.true_and]
        rw [hsel] at hr1 hd1
        refine hQ a1 w1 μ1 hm1 (hr1.setFree rfl rfl fun id hid => ⟨hr1.rlt id (.inl hid), hr1.rno id (.inl hid)⟩) ⟨he1.1, fun t => ?_⟩ hd1
        have : E.get (pth t) = out.env.get (pth t) := by
          by_cases hw : ∃ (j : Nat) (o : AOper), al[j]? = some o ∧ o.dst = some (pth t)
          · obtain ⟨j, o, h1, h2⟩ := hw
            have hj := (List.getElem?_eq_some_iff.1 h1).1
            exact hE1 j o _ (hall j (by omega)) h1 h2
          · have hno : ∀ (j : Nat) (o : AOper), al[j]? = some o → o.dst ≠ some (pth t) := fun j o h1 h2 => hw ⟨j, o, h1, h2⟩
            rw [hE2 _ (fun j o _ h1 => hno j o h1), S.keep _ hno]
        rw [← this]; exact he1.2 t
      refine ⟨?_, fin⟩
      unfold Region.ready
      rw [List.filter_eq_nil_iff]
      intro i hi
      have hi2 := List.mem_range.1 hi
      have h1 := hall i hi2
      have : listed.getD i true = true := by
        rw [Array.getD_eq_getD_getElem?] at h1 ⊢
        rw [Array.getElem?_eq_getElem (by omega)] at h1 ⊢
        exact h1
      simp [this]
    | succ fuel ih =>
      intro rem listed a1 w1 c μ1 E Hc Kc hrl hrm hnd hsz hC hm1 hr1 he1 hd1 hcl hes1 hcle hE1 hE2
      refine ⟨fun hnil => ?_, fun i hi => ?_⟩
      · -- nothing ready: all is listed: but one is not
        exfalso
        have hall : ∀ i, i < ops.size → listed.getD i false = true := fun i => by
          induction i using Nat.strongRecOn with
          | _ i ihi =>
            intro hi
            cases hx : listed.getD i false with
            | true => rfl
            | false =>
              exfalso
              obtain ⟨o, ho⟩ := allt i hi
              have hnot : i ∉ Region.ready .any ops listed := by rw [hnil]; simp
              apply hnot
              unfold Region.ready
              rw [List.mem_filter]
              refine ⟨List.mem_range.2 hi, ?_⟩
              have h1 : listed.getD i true = false := by
                rw [Array.getD_eq_getD_getElem?] at hx ⊢
                rw [Array.getElem?_eq_getElem (by omega)] at hx ⊢
                exact hx
              simp only [h1, Bool.not_false, ho, Option.map_some, Option.getD_some, Bool.true_and]
              rw [Array.all_eq_true_iff_forall_mem]
              intro e hee
              cases hb : Region.binds .any e with
              | false => rfl
              | true =>
                have hmem := bed i o ho e (Array.mem_toList_iff.2 hee) hb
                have hlt := hblt i _ hmem
                simp [ihi e.on hlt (by omega)]
        have : ∃ j, j ∈ rem := by
          cases rem with
          | nil => simp at hrl
          | cons j _ => exact ⟨j, by simp⟩
        obtain ⟨j, hj⟩ := this
        obtain ⟨h1, h2⟩ := (hrm j).1 hj
        rw [hall j h1] at h2; cases h2
      · -- one that is ready
        unfold Region.ready at hi
        rw [List.mem_filter] at hi
        obtain ⟨hir, hcond⟩ := hi
        have hi := List.mem_range.1 hir
        obtain ⟨o, ho⟩ := allt i hi
        obtain ⟨ao, hao, hali⟩ := alg i o ho
        simp only [ho, Option.map_some, Option.getD_some, Bool.and_eq_true, Bool.not_eq_true'] at hcond
        obtain ⟨hun, hafter⟩ := hcond
        have hunl : listed.getD i false = false := by
          rw [Array.getD_eq_getD_getElem?] at hun ⊢
          rw [Array.getElem?_eq_getElem (by omega)] at hun ⊢
          exact hun
        rw [Array.all_eq_true_iff_forall_mem] at hafter
        have hbef : ∀ j ∈ before.getD i [], listed.getD j false = true := fun j hj => by
          obtain ⟨e, he1, he2, he3⟩ := beg i o ho j hj
          have h1 := hafter e (Array.mem_toList_iff.1 he1)
          simp only [he2, Bool.not_true, Bool.false_or] at h1
          rcases he3 with rfl | he3
          · exact h1
          · exact hcl e.on h1 j he3
        obtain ⟨hc1, hc2, hc3, hc4, hc5⟩ := compOper_some hao
        obtain ⟨b, k1, k2, k3, k4, k5, k6⟩ := one i ao hali
        rw [hbs] at k6
        -- the temporaries looked at are there
        have hagr : agree ao.reads E b.env := fun p hp => by
          by_cases hw : ∃ (j : Nat) (o' : AOper), al[j]? = some o' ∧ o'.dst = some p
          · obtain ⟨j, o', h1, h2⟩ := hw
            have hmem := rdg i ao hali p.num hp _ (writers_mem al 0 j o' p h1 h2) rfl
            simp only [Nat.zero_add] at hmem
            have huq : ∀ (j2 : Nat) (o2 : AOper), al[j2]? = some o2 → o2.dst = some p → j2 = j := fun j2 o2 g1 g2 => once j2 j o2 o' p g1 h1 g2 h2
            rcases hmem with hmem | hmem
            · rw [hE1 j o' p (hbef j hmem) h1 h2]
              refine (k2 p fun j2 o2 hle g1 g2 => ?_).symm
              have := huq j2 o2 g1 g2; have := hblt i j hmem; omega
            · have hjl : listed.getD j false = false := by
                cases hx : listed.getD j false with
                | false => rfl
                | true => have := hcl j hx i hmem; rw [hunl] at this; cases this
              rw [hE2 p fun j2 o2 hl2 g1 g2 => by have := huq j2 o2 g1 g2; subst this; rw [hjl] at hl2; cases hl2]
              refine (k3 p fun j2 o2 hlt g1 g2 => ?_).symm
              have := huq j2 o2 g1 g2; have := hblt j i hmem; omega
          · have hno : ∀ (j : Nat) (o : AOper), al[j]? = some o → o.dst ≠ some p := fun j o h1 h2 => hw ⟨j, o, h1, h2⟩
            rw [hE2 _ (fun j o _ h1 => hno j o h1)]
            exact (k3 p fun j o' _ h1 => hno j o' h1).symm
        have hE_op : ∀ q ∈ ao.op.opds, opd E q = opd b.env q := opd_agree fun p hp => hagr p (by simp [AOper.reads, hp])
        have hE_w : wantA E ao.g = b.w := by rw [← k4]; exact wantA_agree _ fun p hp => hagr p (by simp only [AOper.reads, List.mem_append]; exact .inl hp)
        -- where it stands among the effects
        have hpos : isEf b.k = true → es[nF (out.recs.take i)]? = some i ∧ c = nF (out.recs.take i) := fun hef => by
          have h1 := efs_get out.recs 0 i b k1 hef
          rw [hes, Nat.zero_add] at h1
          refine ⟨h1, ?_⟩
          have hle : c ≤ nF (out.recs.take i) := by
            rcases Nat.lt_or_ge (nF (out.recs.take i)) c with hlt | hge
            · have := (hes1 _ i h1).2 hlt; rw [hunl] at this; cases this
            · exact hge
          have hge : nF (out.recs.take i) ≤ c := by
            rcases Nat.lt_or_ge c (nF (out.recs.take i)) with hlt | hge
            · have hcl2 : c < es.length := by have := (List.getElem?_eq_some_iff.1 h1).1; omega
              have hmem := (chainOK_get before es [] hchain (nF (out.recs.take i)) i h1).2 c es[c] hlt (List.getElem?_eq_getElem hcl2)
              have := (hes1 c es[c] (List.getElem?_eq_getElem hcl2)).1 (hbef _ hmem)
              omega
            · exact hge
          omega
        have hnoteff : isEf b.k = false → ∀ (k e : Nat), es[k]? = some e → e ≠ i := fun hef k e hk hei => by
          obtain ⟨j, b', e1, e2, e3, _⟩ := efs_of out.recs 0 k e (by rw [hes]; exact hk)
          have : j = i := by omega
          subst this
          rw [k1] at e2; injection e2 with e2; subst e2
          rw [hef] at e3; cases e3
        have hset : ∀ j, (listed.setIfInBounds i true).getD j false = if j = i then true else listed.getD j false := fun j => getD_set _ _ _ (by omega)
        have hKl : ∀ j ∈ Kc, listed.getD j false = true := fun j hj => by
          obtain ⟨k, e, h1, h2, h3⟩ := based c Hc Kc hC j hj
          exact hcl e ((hes1 k e h2).2 h1) j h3
        have hnwi : b.k ≠ .nw → ∀ q ∈ out.nw, q.1 ≠ i := fun hk q hq e => by
          obtain ⟨_, b', _, h2, h3, _⟩ := nwq q hq
          rw [e, k1] at h2; injection h2 with h2; subst h2; exact hk h3
        -- the rest, behind the step
        have cont : ∀ (c' : Nat) (H2 : Mem) (K2 : List Nat), bases[c']? = some (H2, K2) → c' = (if isEf b.k then c + 1 else c) → ∀ (a2 : Act) (w2 : World) (μ2 : Mp), μ1.le μ2 → Rep P (B.till out.nw (listed.setIfInBounds i true)) w0 μ2 (selM (stP (listed.setIfInBounds i true) K2) out.nw H2) w2 → ER μ2 N (putE E ao.dst b.v) a2.tmps → DR rd μ2 (selM (stP (listed.setIfInBounds i true) K2) out.nw H2) a2 →
            wpAnyIn (Fr r) n P .any ops Q fuel (listed.setIfInBounds i true) a2 w2 := fun c' H2 K2 hb2 hcc a2 w2 μ2 hm2 hr2 he2 hd2 => by
          have hg5 : ∀ p, ao.dst = some p → out.env.get p = b.v := fun p hp => by
            obtain ⟨b', h1, h2⟩ := S.wrote i ao p hali hp (fun j' o' hlt hj' hp' => by have := once i j' ao o' p hali hj' hp hp'; omega)
            rw [k1] at h1; injection h1 with h1; rw [h2, h1]
          have getE : ∀ p, ao.dst ≠ some p → (putE E ao.dst b.v).get p = E.get p := fun p hp => putE_ne hp
          have getS : ∀ p, ao.dst = some p → (putE E ao.dst b.v).get p = b.v := fun p hp => by
            rw [hp]; exact Tr.get_set_same _ _ _
          refine ih (rem.erase i) (listed.setIfInBounds i true) a2 w2 c' μ2 (putE E ao.dst b.v) H2 K2 ?_ ?_ (hnd.erase i) (by simpa using hsz) hb2 (Mp.le_trans hm1 hm2) hr2 he2 hd2 ?_ ?_ ?_ ?_ ?_
          · rw [List.length_erase_of_mem ((hrm i).2 ⟨hi, hunl⟩), hrl]; rfl
          · intro j
            rw [hnd.mem_erase_iff, hrm, hset]
            by_cases hji : j = i
            · simp [hji]
            · simp [hji]
          · intro i' hi' j hj
            rw [hset] at hi' ⊢
            by_cases hji : j = i
            · rw [if_pos hji]
            · rw [if_neg hji]
              by_cases hii : i' = i
              · rw [hii] at hj; exact hbef j hj
              · rw [if_neg hii] at hi'; exact hcl i' hi' j hj
          · intro k e hk
            rw [hset, hcc]
            cases hef : isEf b.k with
            | true =>
              obtain ⟨h1, hcc2⟩ := hpos hef
              simp only [if_true]
              by_cases hei : e = i
              · rw [if_pos hei]
                obtain ⟨j, b', e1, e2, e3, e4⟩ := efs_of out.recs 0 k e (by rw [hes]; exact hk)
                have : j = i := by omega
                subst this
                simp; omega
              · rw [if_neg hei, hes1 k e hk]
                have : k ≠ c := fun hkc => by
                  rw [hkc, hcc2, h1] at hk; injection hk with hk; exact hei hk.symm
                omega
            | false =>
              rw [if_neg (hnoteff hef k e hk)]
              simpa using hes1 k e hk
          · have := (List.getElem?_eq_some_iff.1 hb2).1
            omega
          · intro j o' p hj ho' hdst
            rw [hset] at hj
            by_cases hji : j = i
            · subst hji
              rw [hali] at ho'; injection ho' with ho'; subst ho'
              rw [getS p hdst, hg5 p hdst]
            · rw [if_neg hji] at hj
              rw [getE p (fun hp => hji (once j i o' ao p ho' hali hdst hp))]
              exact hE1 j o' p hj ho' hdst
          · intro p hp
            rw [getE p (fun hpd => hp i ao (by rw [hset, if_pos rfl]) hali hpd)]
            exact hE2 p fun j o' hj ho' => hp j o' (by
              rw [hset]
              by_cases hji : j = i
              · rw [if_pos hji]
              · rw [if_neg hji]; exact hj) ho'
        -- memory is as it was, where nothing is allocated
        have same : b.k ≠ .nw → isEf b.k = false → ∀ (a2 : Act) (w2 : World) (μ2 : Mp), μ1.le μ2 → Rep P (B.till out.nw listed) w0 μ2 (selM (stP listed Kc) out.nw Hc) w2 → ER μ2 N (putE E ao.dst b.v) a2.tmps → DR rd μ2 (selM (stP listed Kc) out.nw Hc) a2 → wpAnyIn (Fr r) n P .any ops Q fuel (listed.setIfInBounds i true) a2 w2 := fun hnk hef a2 w2 μ2 hm2 hr2 he2 hd2 => by
          have hsel : selM (stP (listed.setIfInBounds i true) Kc) out.nw Hc = selM (stP listed Kc) out.nw Hc := selM_congr _ fun q hq => by
            simp only [stP, hset, if_neg (hnwi hnk q hq)]
          refine cont c Hc Kc hC (by rw [hef]; rfl) a2 w2 μ2 hm2 ?_ he2 (by rw [hsel]; exact hd2)
          rw [hsel]
          refine hr2.setFree rfl rfl fun id hid => ?_
          rcases hid with hid | ⟨q, hq, e, hl⟩
          · exact ⟨hr2.rlt id (.inl hid), hr2.rno id (.inl hid)⟩
          · rw [hset, if_neg (hnwi hnk q hq)] at hl
            exact ⟨hr2.rlt id (.inr ⟨q, hq, e, hl⟩), hr2.rno id (.inr ⟨q, hq, e, hl⟩)⟩
        -- the step
        unfold wpOpIn
        simp only [ho]
        have hwant := wanted_sound (o := o) he1 hc2
        rw [hwant, hE_w]
        cases hw : b.w with
        | false =>
          rw [if_neg (by simp)]
          obtain ⟨hbv, hbk⟩ := k5 hw
          have put_d : (a1.put o.dst undef).defers = a1.defers := by cases o.dst <;> rfl
          refine ⟨fun _ _ => trivial, same (by rw [hbk]; simp) (by rw [hbk]; rfl) _ _ μ1 (Mp.le_refl _) hr1 ?_ (hd1.step (Mp.le_refl _) rfl put_d)⟩
          rw [hc3, hbv]; exact env_put he1 VR.undef hc5
        | true =>
          rw [if_pos rfl]
          obtain ⟨Hp, Kp, cb1, cb2⟩ := k6 hw
          rcases cb2 with ⟨hbk, hnew, ob, hvn, hmem⟩ | ⟨hbk, hkd, hv⟩ | ⟨hbk, hnew, H', hv, hnx⟩
          · -- an allocation
            have hvn' : newAt E (H.next + nNew (al.take i)) ao.op = some (b.v, ob) := by rw [newAt_agree _ _ hE_op]; exact hvn
            obtain ⟨cv, O, k, hrun, hkb, hown, hK⟩ := new_run hr1 (hg.mono hm1) he1 hc1 hnew hvn'
            generalize hid : H.next + nNew (al.take i) = nid at *
            have hresold : (B.till out.nw listed).res nid := .inr ⟨_, hmem, rfl, hunl⟩
            have hnh : ¬ μ1.has nid := hr1.rno nid hresold
            have hle := Mp.push_le hnh k
            have hB' : Rep P (B.till out.nw (listed.setIfInBounds i true)) w0 μ1 (selM (stP listed Kc) out.nw Hc) w1 := by
              refine hr1.setFree rfl rfl fun id hid => ?_
              rcases hid with hid | ⟨q, hq, e, hl⟩
              · exact ⟨hr1.rlt id (.inl hid), hr1.rno id (.inl hid)⟩
              · rw [hset] at hl
                by_cases hqi : q.1 = i
                · rw [if_pos hqi] at hl; cases hl
                · rw [if_neg hqi] at hl
                  exact ⟨hr1.rlt id (.inr ⟨q, hq, e, hl⟩), hr1.rno id (.inr ⟨q, hq, e, hl⟩)⟩
            have hresnew : ¬ (B.till out.nw (listed.setIfInBounds i true)).res nid := fun hh => by
              rcases hh with hh | ⟨q, hq, e, hl⟩
              · have := hr.rlt nid hh; omega
              · have := hu q hq _ hmem e
                subst this
                rw [hset, if_pos rfl] at hl; cases hl
            obtain ⟨hob, hvr⟩ := hK (μ1.push nid k) hle (.inl rfl) (Mp.push_f _ _ _)
            have hr2 := hB'.pushAt (w' := w1.alloc O) (k := k) (o := ob) hnh (hr1.rlt nid hresold) hresnew ((Stay.refl _ w1).alloc hB'.base O)
              (fun id hd => Below.heap_alloc _ _ _ (hr1.lt hd)) (fun id ho e => by have := hr1.lt (owns_live ho); omega) (hob.widen fun ho hb => hob.ge ho hb) hown
            have hr3 : Rep P (B.till out.nw (listed.setIfInBounds i true)) w0 (μ1.push nid k) (selM (stP (listed.setIfInBounds i true) Kc) out.nw Hc) (w1.alloc O) := by
              refine hr2.ext (by rw [Mem.next_put, (selM_next _ _ _).1, (selM_next _ _ _).1]) fun id => ?_
              have hik : memN i Kc = false := by
                cases hx : memN i Kc with
                | false => rfl
                | true => have := hKl i ((memN_iff _ _).1 hx); rw [hunl] at this; cases this
              rw [Mem.get_put]
              by_cases hidn : id = nid
              · rw [if_pos hidn, hidn]
                exact selM_in hu Hc hmem (by simp only [stP, hset, if_pos, hik]; rfl)
              · rw [if_neg hidn]
                have hqn : ∀ q ∈ out.nw, q.2.1 = id → q.1 ≠ i := fun q hq e hqi => by
                  obtain ⟨_, _, _, _, _, h4, _⟩ := nwq q hq
                  rw [hqi, hid] at h4; exact hidn (by rw [← e, h4])
                rcases selM_cases hu (p := stP listed Kc) Hc id with ⟨q, hq, hp, e, hg2⟩ | ⟨hn, hg2⟩
                · rw [hg2, ← e]
                  exact selM_in hu Hc hq (by simp only [stP, hset, if_neg (hqn q hq e)]; exact hp)
                · rw [hg2]
                  exact selM_out Hc fun q hq hp e => hn q hq (by simp only [stP, hset, if_neg (hqn q hq e)] at hp; exact hp) e
            refine ⟨fun _ _ => trivial, ?_⟩
            rw [Oper.semAt_eq _ _ _ (no_defer hc1), hrun]
            have put_d : (a1.put o.dst cv).defers = a1.defers := by cases o.dst <;> rfl
            refine cont c Hc Kc hC (by rw [hbk]; rfl) (a1.put o.dst cv) (w1.alloc O) (μ1.push nid k) hle hr3 ?_ ?_
            · rw [hc3]; exact env_put (he1.mono hle) hvr hc5
            · exact hd1.step hle (by rw [(selM_next _ _ _).2, (selM_next _ _ _).2]) put_d
          · -- afloat
            have hef : ao.op.effect = false := by simp only [AOp.effect, hkd]
            have hup : ∀ id, (selM (minP (before.getD i []) Kc) out.nw Hc).get id ≠ .dead → (selM (stP listed Kc) out.nw Hc).get id = (selM (minP (before.getD i []) Kc) out.nw Hc).get id := fun id hd2 => by
              rcases selM_cases hu (p := minP (before.getD i []) Kc) Hc id with ⟨q, hq, hp, e, hg2⟩ | ⟨hn, hg2⟩
              · rw [hg2, ← e]
                simp only [minP, Bool.and_eq_true] at hp
                exact selM_in hu Hc hq (by simp only [stP, hbef q.1 ((memN_iff _ _).1 hp.1), hp.2]; rfl)
              · rw [hg2] at hd2 ⊢
                refine selM_out Hc fun q hq hp e => hd2 ?_
                simp only [stP, Bool.and_eq_true, Bool.not_eq_true'] at hp
                rw [← e]
                exact freed c Hc Kc hC q hq fun hk => by have := (memN_iff _ _).2 hk; rw [hp.2] at this; cases this
            have hp : pureA E (selM (stP listed Kc) out.nw Hc) ao.op = some b.v := by
              rw [pureA_agree _ ao.op hE_op]
              cases hlk : ao.op.looks with
              | false => rw [looks_agree (H' := selM (minP (before.getD i []) Kp) out.nw Hp) hkd hlk]; exact hv
              | true =>
                refine pureA_le hup ?_
                have := float2_get before es bases out.nw al out.recs 0 hfl i ao b hali k1 hlk hef hw c Hc Kc
                simp only [Nat.zero_add] at this
                refine this (lowE_le _ es 0 0 c (fun k e hk hmem => ?_) (Nat.zero_le _)) (le_highE before i es 0 c (fun k e hk hlt hmem => ?_) (by omega)) hC
                · have := (hes1 k e hk).1 (hbef e hmem); omega
                · have h1 := (hes1 k e hk).2 (by omega)
                  have := hcl e h1 i hmem
                  rw [hunl] at this; cases this
            have hop : evOp cf E (selM (stP listed Kc) out.nw Hc) ao.op = some (b.v, selM (stP listed Kc) out.nw Hc) := by simp only [evOp, hkd, hp]
            exact op_sound (hcf _ _) hr1 (hg.mono hm1) he1 hao hop hd1 r n fun a2 w2 μ2 hm2 hr2 he2 hd2 => same (by rw [hbk]; simp) (by rw [hbk]; rfl) a2 w2 μ2 hm2 hr2 he2 hd2
          · -- an effect
            have hef : isEf b.k = true := by rw [hbk]; rfl
            obtain ⟨hes2, hcc⟩ := hpos hef
            rw [← hcc, hC] at cb1
            injection cb1 with cb1; injection cb1 with x1 x2
            subst x1; subst x2
            rw [nF_succ k1, hef, ← hcc] at hnx
            simp only [if_true] at hnx
            -- what is hid
            let X : Nat → Prop := fun id => ∃ q ∈ out.nw, q.2.1 = id ∧ stP listed Kc q.1 = true ∧ q.1 ∉ before.getD i []
            have hX : ∀ id, X id → ((selM (stP listed Kc) out.nw Hc).get id).owns = true := fun id ⟨q, hq, e, hp, _⟩ => by
              rw [← e, selM_in hu Hc hq hp]; exact nwown q hq
            have hx1 : ∀ id, X id → (selM (minP (before.getD i []) Kc) out.nw Hc).get id = .dead := fun id ⟨q, hq, e, hp, hnb⟩ => by
              rw [← e, selM_out Hc fun q' hq' hp' e' => ?_]
              · simp only [stP, Bool.and_eq_true, Bool.not_eq_true'] at hp
                exact freed c Hc Kc hC q hq fun hk => by have := (memN_iff _ _).2 hk; rw [hp.2] at this; cases this
              · have := hu q' hq' q hq e'
                subst this
                simp only [minP, Bool.and_eq_true] at hp'
                exact hnb ((memN_iff _ _).1 hp'.1)
            have hx2 : ∀ id, ¬ X id → (selM (minP (before.getD i []) Kc) out.nw Hc).get id = (selM (stP listed Kc) out.nw Hc).get id := fun id hnx2 => by
              rcases selM_cases hu (p := stP listed Kc) Hc id with ⟨q, hq, hp, e, hg2⟩ | ⟨hn, hg2⟩
              · rw [hg2, ← e]
                refine selM_in hu Hc hq ?_
                have hin : q.1 ∈ before.getD i [] := Classical.byContradiction fun hnb => hnx2 ⟨q, hq, e, hp, hnb⟩
                simp only [stP, Bool.and_eq_true] at hp
                simp only [minP, (memN_iff _ _).2 hin, hp.2]; rfl
              · rw [hg2]
                refine selM_out Hc fun q hq hp e => hn q hq ?_ e
                simp only [minP, Bool.and_eq_true] at hp
                simp only [stP, hbef q.1 ((memN_iff _ _).1 hp.1), hp.2]; rfl
            have hrh := hr1.hide hX (by rw [(selM_next _ _ _).1, (selM_next _ _ _).1]) hx1 hx2
            have hop : evOp cf E (selM (minP (before.getD i []) Kc) out.nw Hc) ao.op = some (b.v, H') := by rw [evOp_agree cf _ ao.op hE_op]; exact hv
            have hdh : DR rd μ1 (selM (minP (before.getD i []) Kc) out.nw Hc) a1 := hd1.step (Mp.le_refl _) (by rw [(selM_next _ _ _).2, (selM_next _ _ _).2]) rfl
            refine op_sound (hcf _ _) hrh (hg.mono hm1) he1 hao hop hdh r n fun a2 w2 μ2 hm2 hr2 he2 hd2 => ?_
            have hst : ∀ q ∈ out.nw, stP (listed.setIfInBounds i true) (Kc ++ before.getD i []) q.1 = true ↔ (stP listed Kc q.1 = true ∧ q.1 ∉ before.getD i []) := fun q hq => by
              simp only [stP, hset, if_neg (hnwi (by rw [hbk]; simp) q hq), Bool.and_eq_true, Bool.not_eq_true']
              have h1 : memN q.1 (Kc ++ before.getD i []) = false ↔ memN q.1 Kc = false ∧ q.1 ∉ before.getD i [] := by
                rw [← Bool.not_eq_true, memN_iff, List.mem_append, ← Bool.not_eq_true, memN_iff]
                exact not_or
              rw [h1]; exact ⟨fun h => ⟨⟨h.1, h.2.1⟩, h.2.2⟩, fun h => ⟨h.1.1, h.1.2, h.2⟩⟩
            have hr3 : Rep P (B.till out.nw listed) w0 μ2 (selM (stP (listed.setIfInBounds i true) (Kc ++ before.getD i [])) out.nw H') w2 := by
              refine hr1.unhide hX hr2 hm2 (selM_next _ _ _).1 (fun id ⟨q, hq, e, hp, hnb⟩ => ?_) (fun id hnx2 => ?_)
              · rw [← e, selM_in hu H' hq ((hst q hq).2 ⟨hp, hnb⟩), selM_in hu Hc hq hp]
              · exact selM_out H' fun q hq hp e => hnx2 ⟨q, hq, e, (hst q hq).1 hp⟩
            refine cont (c + 1) H' (Kc ++ before.getD i []) hnx (by rw [hef]; rfl) a2 w2 μ2 hm2 (hr3.setFree rfl rfl fun id hid => ?_) he2 (hd2.step (Mp.le_refl _) (selM_next _ _ _).2 rfl)
            rcases hid with hid | ⟨q, hq, e, hl⟩
            · exact ⟨hr3.rlt id (.inl hid), hr3.rno id (.inl hid)⟩
            · rw [hset, if_neg (hnwi (by rw [hbk]; simp) q hq)] at hl
              exact ⟨hr3.rlt id (.inr ⟨q, hq, e, hl⟩), hr3.rno id (.inr ⟨q, hq, e, hl⟩)⟩
  have hrep : ∀ j, (Array.replicate ops.size false).getD j false = false := fun j => by
    rw [Array.getD_eq_getD_getElem?, Array.getElem?_replicate]
    split <;> rfl
  have hsel0 : selM (stP (Array.replicate ops.size false) []) out.nw (more H (nNew al)) = more H (nNew al) := by
    have : out.nw.filter (fun q => stP (Array.replicate ops.size false) [] q.1) = [] := List.filter_eq_nil_iff.2 fun q _ h => by
      simp [stP, hrep] at h
    unfold selM
    rw [this]; rfl
  have hget : ∀ id, (more H (nNew al)).get id = H.get id := fun id => rfl
  refine key ops.size (List.range ops.size) _ a _ 0 μ env (more H (nNew al)) [] (by simp) (fun j => ?_) List.nodup_range (by simp) (by rw [← hbs]; rfl) (Mp.le_refl _) ?_ he ?_ ?_ ?_ (Nat.zero_le _) ?_ ?_
  · rw [List.mem_range, hrep]; simp
  · rw [hsel0]
    refine (hr.drew.less (H2 := more H (nNew al)) (by simp [more]) fun k => .inl rfl).setFree rfl rfl fun id hid => ?_
    rcases hid with hid | ⟨q, hq, e, _⟩
    · exact ⟨by have := hr.rlt id hid; simp only [more]; omega, hr.rno id hid⟩
    · obtain ⟨o, b, h1, _, _, h4, h5⟩ := nwq q hq
      have := nNew_le al q.1 o h1 h5
      refine ⟨by simp only [more]; omega, fun hh => by have := hr.n id hh; omega⟩
  · rw [hsel0]; exact hd
  · intro i hi; rw [hrep] at hi; cases hi
  · intro k e hk; rw [hrep]; simp
  · intro j o p hj; rw [hrep] at hj; cases hj
  · intro p _; rfl
end
end Go.Fw
end
section
/- Symbolic evaluation, part A: more fuel gives the same; calls, operations and code without fuel. -/
namespace Go.Fw
open Go.RowKit

def leCF (a b : CallF) : Prop := ∀ c args H r, a c args H = some r → b c args H = some r
theorem leCF.refl (a : CallF) : leCF a a := fun _ _ _ _ h => h
theorem evOp_mono {a b : CallF} (h : leCF a b) {env : Tr} {H : Mem} {o : AOp} {r : AV × Mem} (hv : evOp a env H o = some r) : evOp b env H o = some r := by
  unfold evOp at hv ⊢
  split at hv
  · exact hv
  · exact hv
  · split at hv
    · rename_i f args _
      rw [frcVs_eq] at hv ⊢
      exact h _ _ _ _ hv
    · cases hv
theorem evOps_mono {a b : CallF} (h : leCF a b) : ∀ {l : List AOper} {env : Tr} {H : Mem} {r : Tr × Mem}, evOps a l env H = some r → evOps b l env H = some r
  | [], _, _, _, hv => hv
  | o :: l, env, H, r, hv => by
    simp only [evOps] at hv ⊢
    split at hv
    · split at hv
      · rename_i v H' he
        rw [evOp_mono h he]
        simp only [frcV_eq, frcM_eq, putA_eq] at hv ⊢
        exact evOps_mono h hv
      · cases hv
    · simp only [putA_eq] at hv ⊢
      exact evOps_mono h hv
theorem dgo_mono {a b : CallF} (h : leCF a b) : ∀ {l : List AOper} {env : Tr} {H : Mem} {r : List AV × List Mem × Tr × Mem}, dgo a l env H = some r → dgo b l env H = some r
  | [], _, _, _, hv => hv
  | o :: l, env, H, r, hv => by
    simp only [dgo] at hv ⊢
    split at hv
    · split at hv
      · rename_i v H' he
        rw [evOp_mono h he]
        simp only [frcV_eq, frcM_eq, putA_eq] at hv ⊢
        split at hv
        · rename_i hd
          rw [dgo_mono h hd]; exact hv
        · cases hv
      · cases hv
    · simp only [putA_eq] at hv ⊢
      split at hv
      · rename_i hd
        rw [dgo_mono h hd]; exact hv
      · cases hv
def MonoDr (dr : DregF) : Prop := ∀ (a b : CallF), leCF a b → ∀ l bf env H r, dr a l bf env H = some r → dr b l bf env H = some r
theorem drA_mono : MonoDr drA := fun a b h l bf env H r hv => by
  unfold drA at hv ⊢
  split at hv
  · split at hv
    · rename_i hd
      rw [dgo_mono h hd]; exact hv
    · cases hv
  · cases hv
theorem loopN_mono {f g : Tr → Mem → StRes} (h : ∀ env H r, f env H = some r → g env H = some r) : ∀ {n m : Nat} {env : Tr} {H : Mem} {r : Ex × Tr × Mem}, n ≤ m → loopN f n env H = some r → loopN g m env H = some r
  | 0, _, _, _, _, _, hv => by simp [loopN] at hv
  | n + 1, 0, _, _, _, hl, _ => by omega
  | n + 1, m + 1, env, H, r, hl, hv => by
    simp only [loopN] at hv ⊢
    split at hv
    · rename_i e1
      rw [h _ _ _ e1]
      exact loopN_mono h (Nat.le_of_succ_le_succ hl) hv
    · rename_i x hne
      rw [h _ _ _ hv]
      obtain ⟨e, env', H'⟩ := r
      cases e with
      | nm => exact absurd hv (hne _ _)
      | _ => rfl
theorem evCode_mono {dr : DregF} (hdr : MonoDr dr) {rd : Bool} {a b : CallF} (h : leCF a b) {n m : Nat} (hnm : n ≤ m) : ∀ {c : AC} {env : Tr} {H : Mem} {r : Ex × Tr × Mem}, evCode dr rd a n c env H = some r → evCode dr rd b m c env H = some r := by
  intro c
  induction c with
  | skip => intro env H r hv; exact hv
  | seq x y ihx ihy =>
    intro env H r hv
    simp only [evCode] at hv ⊢
    split at hv
    · rename_i e1
      rw [ihx e1]; exact ihy hv
    · rename_i q hne
      rw [ihx hv]
      obtain ⟨e, env', H'⟩ := r
      cases e with
      | nm => exact absurd hv (hne _ _)
      | _ => rfl
  | cond c x y ihx ihy =>
    intro env H r hv
    simp only [evCode] at hv ⊢
    split at hv
    · exact ihx hv
    · exact ihy hv
    · cases hv
  | block id x ih =>
    intro env H r hv
    simp only [evCode] at hv ⊢
    split at hv
    · rename_i e1
      rw [ih e1]; exact hv
    · rename_i q hne
      rw [ih hv]
      obtain ⟨e, env', H'⟩ := r
      cases e with
      | ex j => exact absurd hv (hne _ _ _)
      | _ => rfl
  | loop x ih =>
    intro env H r hv
    simp only [evCode] at hv ⊢
    exact loopN_mono (fun _ _ _ h => ih h) hnm hv
  | exit id => intro env H r hv; exact hv
  | ret => intro env H r hv; exact hv
  | reg ops =>
    intro env H r hv
    simp only [evCode] at hv ⊢
    split at hv
    · rename_i e1
      rw [evOps_mono h e1]; exact hv
    · cases hv
  | dreg ops bf =>
    intro env H r hv
    simp only [evCode] at hv ⊢
    split at hv
    · rename_i e1
      rw [hdr _ _ h _ _ _ _ _ e1]; exact hv
    · cases hv
  | rfun g ps asg body _ _ =>
    intro env H r hv
    simp only [evCode] at hv ⊢
    cases rd with
    | true => cases hv
    | false =>
      simp only [cond_false, frcM_eq] at hv ⊢
      split at hv <;> try (cases hv; done)
      rw [frcVs_eq] at hv ⊢
      split at hv <;> try (cases hv; done)
      rename_i e1
      rw [h _ _ _ _ e1]; exact hv
  | bad => intro env H r hv; cases hv
theorem argsIn_congr {β : Type} {K K' : Tr → β} {p : β → β → Prop} (h : ∀ env, p (K env) (K' env)) : ∀ (args : List AV) (i : Nat) (env : Tr), p (argsIn i args env K) (argsIn i args env K')
  | [], _, _ => h _
  | v :: vs, i, env => by
    simp only [argsIn, Tr.setK_eq]
    exact argsIn_congr h vs (i + 1) _
theorem setAll_congr {β : Type} {K K' : Tr → β} {p : β → β → Prop} (h : ∀ env, p (K env) (K' env)) : ∀ (ps : List Pth) (vs : List AV) (env : Tr), p (setAll ps vs env K) (setAll ps vs env K')
  | [], _, _ => by unfold setAll; exact h _
  | _ :: _, [], _ => by unfold setAll; exact h _
  | q :: ps, v :: vs, env => by
    simp only [setAll, Tr.setK_eq]
    exact setAll_congr h ps vs _
theorem evBody_mono {dr : DregF} (hdr : MonoDr dr) {a b : CallF} (h : leCF a b) {n m : Nat} (hnm : n ≤ m) {af : AF} {args : List AV} {H : Mem} {r : AV × Mem} (hv : evBody dr a n af args H = some r) : evBody dr b m af args H = some r := by
  unfold evBody at hv ⊢
  refine argsIn_congr (p := fun x y => x = some r → y = some r) (fun env hv => ?_) args 0 _ hv
  split at hv
  · rename_i e1
    rw [evCode_mono hdr h hnm e1]; exact hv
  · cases hv
theorem evRound_mono {dr : DregF} (hdr : MonoDr dr) {a b : CallF} (h : leCF a b) {n m : Nat} (hnm : n ≤ m) {l : Nat} {args : List AV} {H : Mem} {r : AV × Mem} (hv : evRound dr a n l args H = some r) : evRound dr b m l args H = some r := by
  unfold evRound at hv ⊢
  split at hv <;> try (cases hv; done)
  split at hv <;> try (cases hv; done)
  rename_i st tmps ps asg body hl hst hlen
  refine setAll_congr (p := fun x y => x = some r → y = some r) (fun env hv => ?_) _ args _ hv
  split at hv <;> try (cases hv; done)
  rename_i e1
  rw [evCode_mono hdr h hnm e1]
  simp only
  split at hv <;> try (cases hv; done)
  rename_i hl2
  simp only [frcM_eq] at hv ⊢
  split at hv <;> try (cases hv; done)
  rename_i e2
  rw [evCode_mono hdr h hnm e2]
  exact hv
theorem evFn_mono {dr : DregF} (hdr : MonoDr dr) {X : CallF} {F : Nat → Option AF} : ∀ {n m : Nat}, n ≤ m → leCF (evFn dr X F n) (evFn dr X F m)
  | 0, _, _ => fun _ _ _ _ h => by simp [evFn] at h
  | n + 1, 0, hl => by omega
  | n + 1, m + 1, hl => fun c args H r h => by
    have ih := evFn_mono hdr (X := X) (F := F) (Nat.le_of_succ_le_succ hl)
    have hl' := Nat.le_of_succ_le_succ hl
    simp only [evFn] at h ⊢
    split at h
    · exact h
    · split at h
      · split at h
        · exact evBody_mono hdr ih hl' h
        · cases h
      · split at h
        · exact evBody_mono hdr ih hl' h
        · cases h
      · exact evRound_mono hdr ih hl' h
/-- A program's functions: what is told of calls; regions that draw. -/
structure Sys where
  dr : DregF
  X : CallF
  F : Nat → Option AF
  mono : MonoDr dr
namespace Sys
variable (S : Sys)
def ev (n : Nat) : CallF := evFn S.dr S.X S.F n
theorem ev_mono {n m : Nat} (h : n ≤ m) : leCF (S.ev n) (S.ev m) := evFn_mono S.mono h
/-- A call comes to an end of that kind. -/
def Run (c : Cal) (args : List AV) (H : Mem) (Q : AV → Mem → Prop) : Prop := ∃ n v H', S.ev n c args H = some (v, H') ∧ Q v H'
def Ops (l : List AOper) (env : Tr) (H : Mem) (Q : Tr → Mem → Prop) : Prop := ∃ n env' H', evOps (S.ev n) l env H = some (env', H') ∧ Q env' H'
def Wp (rd : Bool) (c : AC) (env : Tr) (H : Mem) (Q : Ex → Tr → Mem → Prop) : Prop := ∃ n e env' H', evCode S.dr rd (S.ev n) n c env H = some (e, env', H') ∧ Q e env' H'
variable {S}
theorem Run.mono {c : Cal} {args : List AV} {H : Mem} {Q Q' : AV → Mem → Prop} (h : S.Run c args H Q) (k : ∀ v H', Q v H' → Q' v H') : S.Run c args H Q' := by
  obtain ⟨n, v, H', e, q⟩ := h
  exact ⟨n, v, H', e, k _ _ q⟩
theorem Wp.mono {rd : Bool} {c : AC} {env : Tr} {H : Mem} {Q Q' : Ex → Tr → Mem → Prop} (h : S.Wp rd c env H Q) (k : ∀ e env' H', Q e env' H' → Q' e env' H') : S.Wp rd c env H Q' := by
  obtain ⟨n, e, env', H', e1, q⟩ := h
  exact ⟨n, e, env', H', e1, k _ _ _ q⟩
theorem code_up {rd : Bool} {c : AC} {env : Tr} {H : Mem} {n m : Nat} (h : n ≤ m) {r : Ex × Tr × Mem} (e : evCode S.dr rd (S.ev n) n c env H = some r) : evCode S.dr rd (S.ev m) m c env H = some r := evCode_mono S.mono (S.ev_mono h) h e
theorem code_det {rd : Bool} {c : AC} {env : Tr} {H : Mem} {n m : Nat} {r q : Ex × Tr × Mem} (e : evCode S.dr rd (S.ev n) n c env H = some r) (k : evCode S.dr rd (S.ev m) m c env H = some q) : r = q := by
  have h1 := code_up (Nat.le_max_left n m) e
  have h2 := code_up (Nat.le_max_right n m) k
  rw [h1] at h2; exact Option.some.inj h2
theorem ops_up {l : List AOper} {env : Tr} {H : Mem} {n m : Nat} (h : n ≤ m) {r : Tr × Mem} (e : evOps (S.ev n) l env H = some r) : evOps (S.ev m) l env H = some r := evOps_mono (S.ev_mono h) e
theorem ops_det {l : List AOper} {env : Tr} {H : Mem} {n m : Nat} {r q : Tr × Mem} (e : evOps (S.ev n) l env H = some r) (k : evOps (S.ev m) l env H = some q) : r = q := by
  have h1 := ops_up (Nat.le_max_left n m) e
  have h2 := ops_up (Nat.le_max_right n m) k
  rw [h1] at h2; exact Option.some.inj h2
theorem run_up {c : Cal} {args : List AV} {H : Mem} {n m : Nat} (h : n ≤ m) {r : AV × Mem} (e : S.ev n c args H = some r) : S.ev m c args H = some r := S.ev_mono h _ _ _ _ e
theorem run_det {c : Cal} {args : List AV} {H : Mem} {n m : Nat} {r q : AV × Mem} (e : S.ev n c args H = some r) (k : S.ev m c args H = some q) : r = q := by
  have h1 := run_up (Nat.le_max_left n m) e
  have h2 := run_up (Nat.le_max_right n m) k
  rw [h1] at h2; exact Option.some.inj h2

/-! ### Code -/
def nxt (rd : Bool) (b : AC) (Q : Ex → Tr → Mem → Prop) : Ex → Tr → Mem → Prop
  | .nm, env, H => S.Wp rd b env H Q
  | .ex i, env, H => Q (.ex i) env H
  | .rt, env, H => Q .rt env H
theorem wp_skip {rd : Bool} {env : Tr} {H : Mem} {Q : Ex → Tr → Mem → Prop} : S.Wp rd .skip env H Q ↔ Q .nm env H := by
  constructor
  · rintro ⟨n, e, env', H', h, q⟩
    simp only [evCode, Option.some.injEq, Prod.mk.injEq] at h
    obtain ⟨rfl, rfl, rfl⟩ := h; exact q
  · intro q; exact ⟨0, _, _, _, rfl, q⟩
theorem wp_exit {rd : Bool} {i : Nat} {env : Tr} {H : Mem} {Q : Ex → Tr → Mem → Prop} : S.Wp rd (.exit i) env H Q ↔ Q (.ex i) env H := by
  constructor
  · rintro ⟨n, e, env', H', h, q⟩
    simp only [evCode, Option.some.injEq, Prod.mk.injEq] at h
    obtain ⟨rfl, rfl, rfl⟩ := h; exact q
  · intro q; exact ⟨0, _, _, _, rfl, q⟩
theorem wp_ret {rd : Bool} {env : Tr} {H : Mem} {Q : Ex → Tr → Mem → Prop} : S.Wp rd .ret env H Q ↔ Q .rt env H := by
  constructor
  · rintro ⟨n, e, env', H', h, q⟩
    simp only [evCode, Option.some.injEq, Prod.mk.injEq] at h
    obtain ⟨rfl, rfl, rfl⟩ := h; exact q
  · intro q; exact ⟨0, _, _, _, rfl, q⟩
theorem wp_seq {rd : Bool} {a b : AC} {env : Tr} {H : Mem} {Q : Ex → Tr → Mem → Prop} : S.Wp rd (.seq a b) env H Q ↔ S.Wp rd a env H (S.nxt rd b Q) := by
  constructor
  · rintro ⟨n, e, env', H', h, q⟩
    simp only [evCode] at h
    split at h
    · rename_i e1 H1 h1
      exact ⟨n, _, _, _, h1, ⟨n, _, _, _, h, q⟩⟩
    · rename_i r hne
      refine ⟨n, _, _, _, h, ?_⟩
      cases e with
      | nm => exact absurd h (hne _ _)
      | ex i => exact q
      | rt => exact q
  · rintro ⟨n, e, env', H', h, q⟩
    cases e with
    | nm =>
      obtain ⟨m, e2, env2, H2, h2, q2⟩ := q
      refine ⟨max n m, e2, env2, H2, ?_, q2⟩
      simp only [evCode, code_up (Nat.le_max_left n m) h]
      exact code_up (Nat.le_max_right n m) h2
    | ex i => exact ⟨n, _, _, _, by simp only [evCode, h], q⟩
    | rt => exact ⟨n, _, _, _, by simp only [evCode, h], q⟩
def blk (id : Nat) (Q : Ex → Tr → Mem → Prop) : Ex → Tr → Mem → Prop
  | .nm, env, H => Q .nm env H
  | .ex i, env, H => Q (bif Nat.beq i id then .nm else .ex i) env H
  | .rt, env, H => Q .rt env H
theorem wp_block {rd : Bool} {id : Nat} {c : AC} {env : Tr} {H : Mem} {Q : Ex → Tr → Mem → Prop} : S.Wp rd (.block id c) env H Q ↔ S.Wp rd c env H (blk id Q) := by
  constructor
  · rintro ⟨n, e, env', H', h, q⟩
    simp only [evCode] at h
    split at h
    · rename_i j e1 H1 h1
      refine ⟨n, _, _, _, h1, ?_⟩
      simp only [blk]
      cases hb : Nat.beq j id with
      | true =>
        simp only [hb, cond_true, Option.some.injEq, Prod.mk.injEq] at h
        obtain ⟨rfl, rfl, rfl⟩ := h; exact q
      | false =>
        simp only [hb, cond_false, Option.some.injEq, Prod.mk.injEq] at h
        obtain ⟨rfl, rfl, rfl⟩ := h; exact q
    · rename_i r hne
      refine ⟨n, _, _, _, h, ?_⟩
      cases e with
      | nm => exact q
      | ex i => exact absurd h (hne _ _ _)
      | rt => exact q
  · rintro ⟨n, e, env', H', h, q⟩
    cases e with
    | nm => exact ⟨n, _, _, _, by simp only [evCode, h], q⟩
    | ex i =>
      simp only [blk] at q
      cases hb : Nat.beq i id with
      | true => rw [hb] at q; exact ⟨n, .nm, _, _, by simp only [evCode, h, hb, cond_true], q⟩
      | false => rw [hb] at q; exact ⟨n, .ex i, _, _, by simp only [evCode, h, hb, cond_false], q⟩
    | rt => exact ⟨n, _, _, _, by simp only [evCode, h], q⟩
theorem loopN_up {rd : Bool} {c : AC} {n k m : Nat} {env : Tr} {H : Mem} {r : Ex × Tr × Mem} (h : loopN (evCode S.dr rd (S.ev n) n c) k env H = some r) (hn : n ≤ m) (hk : k ≤ m) : evCode S.dr rd (S.ev m) m (.loop c) env H = some r := by
  simp only [evCode]
  exact loopN_mono (fun _ _ _ h => code_up hn h) hk h
theorem wp_loop {rd : Bool} {c : AC} {env : Tr} {H : Mem} {Q : Ex → Tr → Mem → Prop} : S.Wp rd (.loop c) env H Q ↔ S.Wp rd c env H (S.nxt rd (.loop c) Q) := by
  constructor
  · rintro ⟨n, e, env', H', h, q⟩
    simp only [evCode] at h
    cases n with
    | zero => simp [loopN] at h
    | succ n =>
      simp only [loopN] at h
      split at h
      · rename_i e1 H1 h1
        exact ⟨_, _, _, _, h1, ⟨n + 1, _, _, _, loopN_up h (Nat.le_refl _) (Nat.le_succ _), q⟩⟩
      · rename_i r hne
        refine ⟨_, _, _, _, h, ?_⟩
        cases e with
        | nm => exact absurd h (hne _ _)
        | ex i => exact q
        | rt => exact q
  · rintro ⟨n, e, env', H', h, q⟩
    have key : ∀ {m : Nat}, n ≤ m → evCode S.dr rd (S.ev m) m c env H = some (e, env', H') := fun hm => code_up hm h
    cases e with
    | nm =>
      obtain ⟨m, e2, env2, H2, h2, q2⟩ := q
      refine ⟨max n m + 1, e2, env2, H2, ?_, q2⟩
      simp only [evCode] at h2 ⊢
      simp only [loopN, key (m := max n m + 1) (by omega)]
      exact loopN_mono (fun _ _ _ h => code_up (by omega) h) (by omega : m ≤ max n m) h2
    | ex i => exact ⟨n + 1, _, _, _, by simp only [evCode, loopN, key (m := n + 1) (by omega)], q⟩
    | rt => exact ⟨n + 1, _, _, _, by simp only [evCode, loopN, key (m := n + 1) (by omega)], q⟩
theorem wp_reg {rd : Bool} {l : List AOper} {env : Tr} {H : Mem} {Q : Ex → Tr → Mem → Prop} : S.Wp rd (.reg l) env H Q ↔ S.Ops l env H (Q .nm) := by
  constructor
  · rintro ⟨n, e, env', H', h, q⟩
    simp only [evCode] at h
    split at h
    · rename_i h1
      simp only [Option.some.injEq, Prod.mk.injEq] at h
      obtain ⟨rfl, rfl, rfl⟩ := h; exact ⟨n, _, _, h1, q⟩
    · cases h
  · rintro ⟨n, env', H', h, q⟩
    exact ⟨n, _, _, _, by simp only [evCode, h], q⟩
def cnd0 (v : AV) (p q : Prop) : Prop := match v with
  | .b true => p
  | .b false => q
  | _ => False
theorem wp_cond {rd : Bool} {x : Opd} {a b : AC} {env : Tr} {H : Mem} {Q : Ex → Tr → Mem → Prop} : S.Wp rd (.cond x a b) env H Q ↔ cnd0 (opd env x) (S.Wp rd a env H Q) (S.Wp rd b env H Q) := by
  constructor
  · rintro ⟨n, e, env', H', h, q⟩
    simp only [evCode] at h
    split at h
    · rename_i hb; rw [hb]; exact ⟨n, _, _, _, h, q⟩
    · rename_i hb; rw [hb]; exact ⟨n, _, _, _, h, q⟩
    · cases h
  · intro h
    unfold cnd0 at h
    split at h
    · rename_i hb
      obtain ⟨n, e, env', H', h1, q⟩ := h
      exact ⟨n, _, _, _, by simp only [evCode, hb]; exact h1, q⟩
    · rename_i hb
      obtain ⟨n, e, env', H', h1, q⟩ := h
      exact ⟨n, _, _, _, by simp only [evCode, hb]; exact h1, q⟩
    · cases h
/-! ### Operations -/
theorem ops_nil {env : Tr} {H : Mem} {Q : Tr → Mem → Prop} : S.Ops [] env H Q ↔ Q env H := by
  constructor
  · rintro ⟨n, env', H', h, q⟩
    simp only [evOps, Option.some.injEq, Prod.mk.injEq] at h
    obtain ⟨rfl, rfl⟩ := h; exact q
  · intro q; exact ⟨0, _, _, rfl, q⟩
/-- One operation. -/
def Op1 (S : Sys) (o : AOp) (env : Tr) (H : Mem) (K : AV → Mem → Prop) : Prop := match o.kd with
  | .pure => match pureA env H o with
    | some v => K v H
    | none => False
  | .eff => match effA env H o with
    | some (v, H') => K v H'
    | none => False
  | .call => match callA env o with
    | some (c, args) => S.Run c args H K
    | none => False
theorem op1_iff {o : AOp} {env : Tr} {H : Mem} {K : AV → Mem → Prop} : S.Op1 o env H K ↔ ∃ n v H', evOp (S.ev n) env H o = some (v, H') ∧ K v H' := by
  unfold Op1 evOp
  cases o.kd with
  | pure =>
    simp only
    cases pureA env H o with
    | none => simp
    | some v =>
      constructor
      · intro k; exact ⟨0, v, H, rfl, k⟩
      · rintro ⟨n, v', H', e, k⟩
        simp only [Option.some.injEq, Prod.mk.injEq] at e
        obtain ⟨rfl, rfl⟩ := e; exact k
  | eff =>
    simp only
    cases effA env H o with
    | none => simp
    | some r =>
      obtain ⟨v, H'⟩ := r
      constructor
      · intro k; exact ⟨0, v, H', rfl, k⟩
      · rintro ⟨n, v', H', e, k⟩
        simp only [Option.some.injEq, Prod.mk.injEq] at e
        obtain ⟨rfl, rfl⟩ := e; exact k
  | call =>
    simp only
    cases callA env o with
    | none => simp
    | some r => obtain ⟨c, args⟩ := r; simp only [frcVs_eq]; rfl
theorem ops_cons {d : Option Pth} {o : AOp} {l : List AOper} {env : Tr} {H : Mem} {Q : Tr → Mem → Prop} : S.Ops (⟨d, o, none⟩ :: l) env H Q ↔ S.Op1 o env H (fun v H' => S.Ops l (putE env d v) H' Q) := by
  rw [op1_iff]
  constructor
  · rintro ⟨n, env', H', h, q⟩
    simp only [evOps, wantA] at h
    split at h
    · rename_i v H1 h1
      simp only [frcV_eq, frcM_eq, putA_eq] at h
      exact ⟨n, v, H1, h1, ⟨n, env', H', h, q⟩⟩
    · cases h
  · rintro ⟨n, v, H1, h1, ⟨m, env', H', h, q⟩⟩
    refine ⟨max n m, env', H', ?_, q⟩
    simp only [evOps, wantA, evOp_mono (S.ev_mono (Nat.le_max_left n m)) h1, frcV_eq, frcM_eq, putA_eq]
    exact ops_up (Nat.le_max_right n m) h
theorem ops_guard {d : Option Pth} {o : AOp} {p : Pth} {b : Bool} {l : List AOper} {env : Tr} {H : Mem} {Q : Tr → Mem → Prop} : S.Ops (⟨d, o, some (p, b)⟩ :: l) env H Q ↔ (match wantA env (some (p, b)) with | true => S.Ops (⟨d, o, none⟩ :: l) env H Q | false => S.Ops l (putE env d undefA) H Q) := by
  constructor
  · rintro ⟨n, env', H', h, q⟩
    simp only [evOps] at h
    cases hw : wantA env (some (p, b)) with
    | true => rw [hw] at h; exact ⟨n, env', H', by simp only [evOps, wantA]; exact h, q⟩
    | false => rw [hw] at h; simp only [putA_eq] at h; exact ⟨n, env', H', h, q⟩
  · intro h
    cases hw : wantA env (some (p, b)) with
    | true =>
      rw [hw] at h; obtain ⟨n, env', H', h, q⟩ := h
      exact ⟨n, env', H', by simp only [evOps, wantA] at h; simp only [evOps, hw]; exact h, q⟩
    | false =>
      rw [hw] at h; obtain ⟨n, env', H', h, q⟩ := h
      exact ⟨n, env', H', by simp only [evOps, hw, putA_eq]; exact h, q⟩
/-! ### Functions -/
/-- What is done at a function's end. -/
def fin (res : List RV) (ms : List Nat) (Q : AV → Mem → Prop) : Ex → Tr → Mem → Prop
  | .ex _, _, _ => False
  | _, env, H => match endMarks H.marks H with
    | some H2 => match resA env H2 res with
      | some v => Q v (H2.mark ms)
      | none => False
    | none => False
def argsE : Nat → List AV → Tr → Tr
  | _, [], env => env
  | i, v :: vs, env => argsE (i + 1) vs (env.set (pth i) v)
theorem argsIn_argsE {β : Type} : ∀ (args : List AV) (i : Nat) (env : Tr) (K : Tr → β), argsIn i args env K = K (argsE i args env)
  | [], _, _, _ => rfl
  | v :: vs, i, env, K => by simp only [argsIn, Tr.setK_eq, argsE]; exact argsIn_argsE vs (i + 1) _ K
theorem body_run {af : AF} {args : List AV} {H : Mem} {Q : AV → Mem → Prop} (h : S.Wp false af.body (argsE 0 args (trU af.ntmps)) (H.mark []) (fin af.res H.marks Q)) : ∃ n v H', evBody S.dr (S.ev n) n af args H = some (v, H') ∧ Q v H' := by
  obtain ⟨n, e, env', H', h1, q⟩ := h
  have : ∃ H2 v, endMarks H'.marks H' = some H2 ∧ resA env' H2 af.res = some v ∧ Q v (H2.mark H.marks) ∧ ∀ i, e ≠ .ex i := by
    cases e with
    | ex i => exact q.elim
    | nm =>
      simp only [fin] at q
      split at q <;> try (exact q.elim)
      split at q <;> try (exact q.elim)
      exact ⟨_, _, ‹_›, ‹_›, q, fun i => by simp⟩
    | rt =>
      simp only [fin] at q
      split at q <;> try (exact q.elim)
      split at q <;> try (exact q.elim)
      exact ⟨_, _, ‹_›, ‹_›, q, fun i => by simp⟩
  obtain ⟨H2, v, e1, e2, q, hne⟩ := this
  refine ⟨n, v, H2.mark H.marks, ?_, q⟩
  unfold evBody
  rw [argsIn_argsE, h1]
  cases e with
  | ex i => exact absurd rfl (hne i)
  | nm => simp only [e1, e2, frcV_eq, frcM_eq]
  | rt => simp only [e1, e2, frcV_eq, frcM_eq]
theorem run_fn {f : Nat} {af : AF} {args : List AV} {H : Mem} {Q : AV → Mem → Prop} (hF : S.F f = some af) (hX : S.X (.f f) args H = none) (h : S.Wp false af.body (argsE 0 args (trU af.ntmps)) (H.mark []) (fin af.res H.marks Q)) : S.Run (.f f) args H Q := by
  obtain ⟨n, v, H', e, q⟩ := body_run h
  exact ⟨n + 1, v, H', by simp only [ev, evFn, hX, hF]; exact e, q⟩
theorem run_b {f : Nat} {af : AF} {args : List AV} {H : Mem} {Q : AV → Mem → Prop} (hF : S.F f = some af) (hX : S.X (.b f) args H = none) (h : S.Wp false af.body (argsE 0 args (trU af.ntmps)) (H.mark []) (fin af.res H.marks Q)) : S.Run (.b f) args H Q := by
  obtain ⟨n, v, H', e, q⟩ := body_run h
  exact ⟨n + 1, v, H', by simp only [ev, evFn, hX, hF]; exact e, q⟩
theorem run_told {c : Cal} {args : List AV} {H : Mem} {Q : AV → Mem → Prop} {v : AV} {H' : Mem} (hX : S.X c args H = some (v, H')) (h : Q v H') : S.Run c args H Q :=
  ⟨1, v, H', by simp only [ev, evFn, hX], h⟩
theorem run_told_iff {c : Cal} {args : List AV} {H : Mem} {Q : AV → Mem → Prop} {v : AV} {H' : Mem} (hX : S.X c args H = some (v, H')) : S.Run c args H Q ↔ Q v H' := by
  constructor
  · rintro ⟨n, v2, H2, e, q⟩
    have := run_det e (run_told (Q := fun a b => a = v ∧ b = H') hX ⟨rfl, rfl⟩).choose_spec.choose_spec.choose_spec.1
    have h2 := (run_told (S := S) (Q := fun a b => a = v ∧ b = H') hX ⟨rfl, rfl⟩).choose_spec.choose_spec.choose_spec.2
    injection this with a b
    rw [h2.1] at a; rw [h2.2] at b
    rw [← a, ← b]; exact q
  · exact run_told hX
end Sys
end Go.Fw
end
