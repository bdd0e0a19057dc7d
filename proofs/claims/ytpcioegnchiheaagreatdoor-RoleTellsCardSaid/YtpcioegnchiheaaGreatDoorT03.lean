/- Lemmas for the law's proof, part 3. -/
import Derived.Test.YtpcioegnchiheaaGreatDoorT02
import Derived.Shelf.Strings.Builder1
import Derived.ProofKit
import Derived.OpenShut
import Derived.LaidMore
import Derived.Lay
import Derived.SevenTiedAt
import Derived.Stop.Joined
import Derived.Carry
set_option linter.unusedSimpArgs false
set_option linter.unusedVariables false
set_option linter.constructorNameAsVariable false
set_option linter.unnecessarySimpa false
section
/- Symbolic evaluation, part B: the rules by which code is walked. -/
namespace Go.Fw
open Go.RowKit
namespace Sys
variable {S : Sys} {rd : Bool} {env : Tr} {H : Mem} {Q : Ex → Tr → Mem → Prop} {K : AV → Mem → Prop} {c0 : AC}
/-- A box: what lies in it is not looked at. -/
class Bx (α : Sort _) where
  un : α
/-- Code, operations, a call: what is to hold behind them lies in a box. -/
def W (S : Sys) (rd : Bool) (c : AC) (env : Tr) (H : Mem) [Q : Bx (Ex → Tr → Mem → Prop)] : Prop := S.Wp rd c env H Q.un
def O (S : Sys) (l : List AOper) (env : Tr) (H : Mem) [Q : Bx (Tr → Mem → Prop)] : Prop := S.Ops l env H Q.un
def o1 (S : Sys) (o : AOp) (env : Tr) (H : Mem) [K : Bx (AV → Mem → Prop)] : Prop := S.Op1 o env H K.un
def R (S : Sys) (c : Cal) (args : List AV) (H : Mem) [K : Bx (AV → Mem → Prop)] : Prop := S.Run c args H K.un
theorem w_iff : @W S rd c0 env H ⟨Q⟩ ↔ S.Wp rd c0 env H Q := Iff.rfl
variable {a b : AC} {i id : Nat}
@[go_sem ↓] theorem w_skip : @W S rd .skip env H ⟨Q⟩ ↔ Q .nm env H := wp_skip
@[go_sem ↓] theorem w_exit : @W S rd (.exit i) env H ⟨Q⟩ ↔ Q (.ex i) env H := wp_exit
@[go_sem ↓] theorem w_ret : @W S rd .ret env H ⟨Q⟩ ↔ Q .rt env H := wp_ret
/-- The rest of the code, as what is to hold. -/
def nx (S : Sys) (rd : Bool) (b : AC) (Q : Ex → Tr → Mem → Prop) (e : Ex) (env : Tr) (H : Mem) : Prop := S.nxt rd b Q e env H
def bk (id : Nat) (Q : Ex → Tr → Mem → Prop) (e : Ex) (env : Tr) (H : Mem) : Prop := blk id Q e env H
@[go_sem ↓] theorem w_seq : @W S rd (.seq a b) env H ⟨Q⟩ ↔ @W S rd a env H ⟨S.nx rd b Q⟩ := wp_seq
@[go_sem ↓] theorem w_block : @W S rd (.block id a) env H ⟨Q⟩ ↔ @W S rd a env H ⟨bk id Q⟩ := wp_block
@[go_sem ↓] theorem w_reg {l : List AOper} : @W S rd (.reg l) env H ⟨Q⟩ ↔ @O S l env H ⟨Q .nm⟩ := wp_reg
theorem w_loop : @W S rd (.loop a) env H ⟨Q⟩ ↔ @W S rd a env H ⟨S.nx rd (.loop a) Q⟩ := wp_loop
@[go_sem ↓] theorem nx_nm : S.nx rd b Q .nm env H ↔ @W S rd b env H ⟨Q⟩ := Iff.rfl
@[go_sem ↓] theorem nx_ex : S.nx rd b Q (.ex i) env H ↔ Q (.ex i) env H := Iff.rfl
@[go_sem ↓] theorem nx_rt : S.nx rd b Q .rt env H ↔ Q .rt env H := Iff.rfl
@[go_sem ↓] theorem bk_nm : bk id Q .nm env H ↔ Q .nm env H := Iff.rfl
@[go_sem ↓] theorem bk_rt : bk id Q .rt env H ↔ Q .rt env H := Iff.rfl
theorem bk_eq : bk id Q (.ex id) env H ↔ Q .nm env H := by simp only [bk, blk, beqN]; simp
theorem bk_ne (h : i ≠ id) : bk id Q (.ex i) env H ↔ Q (.ex i) env H := by simp only [bk, blk, beqN]; simp [h]
/-- An exit's place among the blocks. -/
def bx (id i : Nat) (Q : Ex → Tr → Mem → Prop) (env : Tr) (H : Mem) : Prop := match Nat.beq i id with
  | true => Q .nm env H
  | false => Q (.ex i) env H
@[go_sem ↓] theorem bk_ex : bk id Q (.ex i) env H ↔ Q (bif Nat.beq i id then .nm else .ex i) env H := Iff.rfl
/-- A test. -/
def cnd (v : AV) [p : Bx Prop] [q : Bx Prop] : Prop := Sys.cnd0 v p.un q.un
@[go_sem ↓] theorem w_cond {x : Opd} : @W S rd (.cond x a b) env H ⟨Q⟩ ↔ @cnd (opd env x) ⟨@W S rd a env H ⟨Q⟩⟩ ⟨@W S rd b env H ⟨Q⟩⟩ := wp_cond
@[go_sem] theorem cnd_true {p q : Prop} : @cnd (.b true) ⟨p⟩ ⟨q⟩ ↔ p := Iff.rfl
@[go_sem] theorem cnd_false {p q : Prop} : @cnd (.b false) ⟨p⟩ ⟨q⟩ ↔ q := Iff.rfl
theorem cnd_dec {c : Prop} [Decidable c] {p q : Prop} (h : c → p) (k : ¬ c → q) : @cnd (.b (decide c)) ⟨p⟩ ⟨q⟩ := by
  by_cases hc : c
  · rw [decide_eq_true hc]; exact h hc
  · rw [decide_eq_false hc]; exact k hc
theorem cnd_bool {b : Bool} {p q : Prop} (h : b = true → p) (k : b = false → q) : @cnd (.b b) ⟨p⟩ ⟨q⟩ := by
  cases b
  · exact k rfl
  · exact h rfl
/-- Under a guard. -/
def grd0 (v : AV) (b : Bool) (p r : Prop) : Prop := match v with
  | .b x => if x = b then p else r
  | _ => r
def grd (v : AV) (b : Bool) [p : Bx Prop] [r : Bx Prop] : Prop := grd0 v b p.un r.un
section ops
variable {l : List AOper} {Q : Tr → Mem → Prop} {d : Option Pth} {o : AOp} {p : Pth} {b : Bool}
@[go_sem] theorem o_nil : @O S [] env H ⟨Q⟩ ↔ Q env H := ops_nil
@[go_sem] theorem o_cons : @O S (⟨d, o, none⟩ :: l) env H ⟨Q⟩ ↔ @o1 S o env H ⟨fun v H' => @O S l (putE env d v) H' ⟨Q⟩⟩ := ops_cons
@[go_sem] theorem o_grd : @O S (⟨d, o, some (p, b)⟩ :: l) env H ⟨Q⟩ ↔ @grd (env.get p) b ⟨@O S (⟨d, o, none⟩ :: l) env H ⟨Q⟩⟩ ⟨@O S l (putE env d undefA) H ⟨Q⟩⟩ := by
  show S.Ops _ _ _ _ ↔ grd0 _ _ (S.Ops _ _ _ _) (S.Ops _ _ _ _)
  rw [ops_guard]
  simp only [wantA]
  cases h : env.get p with
  | b x => cases x <;> cases b <;> simp [grd0]
  | _ => simp [grd0]
end ops
@[go_sem] theorem grd_tt {p r : Prop} : @grd (.b true) true ⟨p⟩ ⟨r⟩ ↔ p := by simp [grd, grd0]
@[go_sem] theorem grd_ff {p r : Prop} : @grd (.b false) false ⟨p⟩ ⟨r⟩ ↔ p := by simp [grd, grd0]
@[go_sem] theorem grd_tf {p r : Prop} : @grd (.b true) false ⟨p⟩ ⟨r⟩ ↔ r := by simp [grd, grd0]
@[go_sem] theorem grd_ft {p r : Prop} : @grd (.b false) true ⟨p⟩ ⟨r⟩ ↔ r := by simp [grd, grd0]
@[go_sem] theorem grd_undef {b : Bool} {p r : Prop} : @grd undefA b ⟨p⟩ ⟨r⟩ ↔ r := Iff.rfl
theorem grd_dec {c : Prop} [Decidable c] {b : Bool} {p r : Prop} (h : c → @grd (.b true) b ⟨p⟩ ⟨r⟩) (k : ¬ c → @grd (.b false) b ⟨p⟩ ⟨r⟩) : @grd (.b (decide c)) b ⟨p⟩ ⟨r⟩ := by
  by_cases hc : c
  · rw [decide_eq_true hc]; exact h hc
  · rw [decide_eq_false hc]; exact k hc
theorem grd_bool {x b : Bool} {p r : Prop} (h : x = true → @grd (.b true) b ⟨p⟩ ⟨r⟩) (k : x = false → @grd (.b false) b ⟨p⟩ ⟨r⟩) : @grd (.b x) b ⟨p⟩ ⟨r⟩ := by
  cases x
  · exact k rfl
  · exact h rfl
/-- What is some. -/
def onS (x : Option AV) [K : Bx (AV → Prop)] : Prop := match x with
  | some v => K.un v
  | none => False
def onE (x : Option (AV × Mem)) [K : Bx (AV → Mem → Prop)] : Prop := match x with
  | some (v, H) => K.un v H
  | none => False
@[go_sem] theorem onS_some {v : AV} {K : AV → Prop} : @onS (some v) ⟨K⟩ ↔ K v := Iff.rfl
@[go_sem] theorem onE_some {v : AV} : @onE (some (v, H)) ⟨K⟩ ↔ K v H := Iff.rfl
theorem onE_of {x : Option (AV × Mem)} {P : AV → Mem → Prop} (h : ∃ v H', x = some (v, H') ∧ P v H') (k : ∀ v H', P v H' → K v H') : @onE x ⟨K⟩ := by
  obtain ⟨v, H', rfl, p⟩ := h; exact k v H' p
theorem onS_of {x : Option AV} {K : AV → Prop} {P : AV → Prop} (h : ∃ v, x = some v ∧ P v) (k : ∀ v, P v → K v) : @onS x ⟨K⟩ := by
  obtain ⟨v, rfl, p⟩ := h; exact k v p
theorem onS_map {x : Option AV} {f : AV → AV} {K : AV → Prop} : @onS (x.map f) ⟨K⟩ ↔ @onS x ⟨fun v => K (f v)⟩ := by cases x <;> rfl
theorem op1_pure {o : AOp} (h : o.kd = .pure) : @o1 S o env H ⟨K⟩ ↔ @onS (pureA env H o) ⟨fun v => K v H⟩ := by
  unfold o1 Op1; rw [h]; simp only [onS]; cases pureA env H o <;> rfl
theorem op1_eff {o : AOp} (h : o.kd = .eff) : @o1 S o env H ⟨K⟩ ↔ @onE (effA env H o) ⟨K⟩ := by
  unfold o1 Op1; rw [h]; simp only [onE]; cases effA env H o <;> rfl
section pure
variable {x y z c : Opd}
@[go_sem] theorem op1_mv : @o1 S (.mv x) env H ⟨K⟩ ↔ K (opd env x) H := op1_pure rfl
@[go_sem] theorem op1_pick : @o1 S (.pick c x y) env H ⟨K⟩ ↔ @cnd (opd env c) ⟨K (opd env x) H⟩ ⟨K (opd env y) H⟩ := by
  rw [op1_pure rfl]; simp only [pureA]
  cases opd env c with
  | b t => cases t <;> simp [onS, cnd, cnd0]
  | _ => simp [onS, cnd, cnd0]
@[go_sem] theorem op1_build {zs : List AV} {ps : List (Nat × Nat × Opd)} : @o1 S (.build zs ps) env H ⟨K⟩ ↔ @onS ((fillA zs (ps.map fun q => (q.1, q.2.1, opd env q.2.2))).map .agg) ⟨fun v => K v H⟩ := op1_pure rfl
def loadS (H : Mem) (agg : Bool) (n : Nat) (p : AV) : Option AV := match p with
  | .p (some (id, off)) => ld H agg n id off
  | _ => none
@[go_sem] theorem loadS_p {agg : Bool} {n id off : Nat} : loadS H agg n (.p (some (id, off))) = ld H agg n id off := rfl
@[go_sem] theorem op1_load {agg : Bool} {n : Nat} : @o1 S (.load agg n x) env H ⟨K⟩ ↔ @onS (loadS H agg n (opd env x)) ⟨fun v => K v H⟩ := op1_pure rfl
def nilS (x : AV) : Option AV := match x with | .p none => none | .nif => none | .nfn => none | v => some v
@[go_sem] theorem op1_nilc : @o1 S (.nilc x) env H ⟨K⟩ ↔ @onS (nilS (opd env x)) ⟨fun v => K v H⟩ := op1_pure rfl
@[go_sem] theorem nilS_p {a : Nat × Nat} : nilS (.p (some a)) = some (.p (some a)) := rfl
@[go_sem] theorem op1_bin {op : BinOp} {e : EqK} : @o1 S (.bin op e x y) env H ⟨K⟩ ↔ @onS (binA op e (opd env x) (opd env y)) ⟨fun v => K v H⟩ := op1_pure rfl
@[go_sem] theorem op1_un {op : UnOp} : @o1 S (.un op x) env H ⟨K⟩ ↔ @onS (unA op (opd env x)) ⟨fun v => K v H⟩ := op1_pure rfl
def convI (k : IntKind) (x : AV) : Option AV := match x with | .i _ n => some (.i k (wr k n)) | _ => none
@[go_sem] theorem convI_i {k j : IntKind} {n : Int} : convI k (.i j n) = some (.i k (k.wrap n)) := by simp only [convI, wr_eq]
@[go_sem] theorem op1_convI {k : IntKind} : @o1 S (.conv (.int k) x) env H ⟨K⟩ ↔ @onS (convI k (opd env x)) ⟨fun v => K v H⟩ := op1_pure rfl
def convS (x : AV) : Option AV := match x with | .s l => some (.s l) | _ => none
@[go_sem] theorem convS_s {l : List UInt8} : convS (.s l) = some (.s l) := rfl
@[go_sem] theorem op1_convS : @o1 S (.conv .same x) env H ⟨K⟩ ↔ @onS (convS (opd env x)) ⟨fun v => K v H⟩ := op1_pure rfl
@[go_sem] theorem op1_convStr : @o1 S (.conv .str x) env H ⟨K⟩ ↔ @onS (strA H (opd env x)) ⟨fun v => K v H⟩ := op1_pure rfl
@[go_sem] theorem op1_mkif {t : Nat} : @o1 S (.mkif t x) env H ⟨K⟩ ↔ @onS (if (opd env x).one then some (.ifc t (opd env x)) else none) ⟨fun v => K v H⟩ := op1_pure rfl
@[go_sem] theorem op1_mkfn {f : Nat} {a b : List Opd} : @o1 S (.mkfn f a b) env H ⟨K⟩ ↔ K (.fn f (a.map (opd env)) (b.map (opd env))) H := op1_pure rfl
@[go_sem] theorem op1_look {zv : AV} {k : EqK} {ok : Bool} : @o1 S (.look zv k ok x y) env H ⟨K⟩ ↔ @onS (lookVA H zv k ok (opd env x) (opd env y)) ⟨fun v => K v H⟩ := op1_pure rfl
@[go_sem] theorem op1_slS {lo hi : Option Opd} : @o1 S (.slS x lo hi) env H ⟨K⟩ ↔ @onS (slSA (opd env x) (lo.map (opd env)) (hi.map (opd env))) ⟨fun v => K v H⟩ := op1_pure rfl
@[go_sem] theorem op1_slV {sz : Nat} {lo hi mx : Option Opd} : @o1 S (.slV sz x lo hi mx) env H ⟨K⟩ ↔ @onS (slVA H sz (opd env x) (lo.map (opd env)) (hi.map (opd env)) (mx.map (opd env))) ⟨fun v => K v H⟩ := op1_pure rfl
@[go_sem] theorem op1_slA {n sz : Nat} {lo hi : Option Opd} : @o1 S (.slA n sz x lo hi) env H ⟨K⟩ ↔ @onS (slAA H n sz (opd env x) (lo.map (opd env)) (hi.map (opd env))) ⟨fun v => K v H⟩ := op1_pure rfl
def fldS (off : Nat) (x : AV) : Option AV := match x with | .p (some (id, o)) => some (.p (some (id, o + off))) | _ => none
@[go_sem] theorem fldS_p {off id o : Nat} : fldS off (.p (some (id, o))) = some (.p (some (id, o + off))) := rfl
@[go_sem] theorem op1_fldA {off : Nat} : @o1 S (.fldA off x) env H ⟨K⟩ ↔ @onS (fldS off (opd env x)) ⟨fun v => K v H⟩ := op1_pure rfl
def fldV (agg : Bool) (n off : Nat) (x : AV) : Option AV := match x with
  | .agg l => if agg then (if off + n ≤ l.length then some (.agg ((l.drop off).take n)) else none) else l[off]?
  | _ => none
@[go_sem] theorem fldV_agg {agg : Bool} {n off : Nat} {l : List AV} : fldV agg n off (.agg l) = if agg then (if off + n ≤ l.length then some (.agg ((l.drop off).take n)) else none) else l[off]? := rfl
@[go_sem] theorem op1_fld {agg : Bool} {n off : Nat} : @o1 S (.fld agg n off x) env H ⟨K⟩ ↔ @onS (fldV agg n off (opd env x)) ⟨fun v => K v H⟩ := op1_pure rfl
def ixAS (n sz : Nat) (p i : AV) : Option AV := match p, natOf i with
  | .p (some (id, o)), some k => if k < n then some (.p (some (id, o + k * sz))) else none
  | _, _ => none
@[go_sem] theorem op1_ixA {n sz : Nat} : @o1 S (.ixA n sz x y) env H ⟨K⟩ ↔ @onS (ixAS n sz (opd env x) (opd env y)) ⟨fun v => K v H⟩ := op1_pure rfl
def ixVS (sz : Nat) (x i : AV) : Option AV := match x, natOf i with
  | .sl id off len _, some k => if k < len then some (.p (some (id, off + k * sz))) else none
  | _, _ => none
@[go_sem] theorem op1_ixV {sz : Nat} : @o1 S (.ixV sz x y) env H ⟨K⟩ ↔ @onS (ixVS sz (opd env x) (opd env y)) ⟨fun v => K v H⟩ := op1_pure rfl
def ixSS (x i : AV) : Option AV := match x, natOf i with
  | .s l, some k => match l[k]? with | some c => some (.i .u8 c.toNat) | none => none
  | _, _ => none
@[go_sem] theorem op1_ixS : @o1 S (.ixS x y) env H ⟨K⟩ ↔ @onS (ixSS (opd env x) (opd env y)) ⟨fun v => K v H⟩ := op1_pure rfl
def ixGS (agg : Bool) (n sz : Nat) (x i : AV) : Option AV := match x, natOf i with
  | .agg l, some k => if k < n then (if agg then (if k * sz + sz ≤ l.length then some (.agg ((l.drop (k * sz)).take sz)) else none) else l[k * sz]?) else none
  | _, _ => none
@[go_sem] theorem op1_ixG {agg : Bool} {n sz : Nat} : @o1 S (.ixG agg n sz x y) env H ⟨K⟩ ↔ @onS (ixGS agg n sz (opd env x) (opd env y)) ⟨fun v => K v H⟩ := op1_pure rfl
def extS (x : AV) (j : Nat) : Option AV := match x with | .tup l => l[j]? | _ => none
@[go_sem] theorem extS_tup {l : List AV} {j : Nat} : extS (.tup l) j = l[j]? := rfl
@[go_sem] theorem op1_ext {j : Nat} : @o1 S (.ext x j) env H ⟨K⟩ ↔ @onS (extS (opd env x) j) ⟨fun v => K v H⟩ := op1_pure rfl
def lenSS (x : AV) : Option AV := match x with | .s l => some (.i .i64 l.length) | _ => none
@[go_sem] theorem lenSS_s {l : List UInt8} : lenSS (.s l) = some (.i .i64 l.length) := rfl
@[go_sem] theorem op1_lenS : @o1 S (.lenS x) env H ⟨K⟩ ↔ @onS (lenSS (opd env x)) ⟨fun v => K v H⟩ := op1_pure rfl
def lenVS (x : AV) : Option AV := match x with | .sl _ _ n _ => some (.i .i64 n) | .esl => some (.i .i64 0) | .nsl => some (.i .i64 0) | _ => none
@[go_sem] theorem lenVS_sl {id o n : Nat} {c : Option Nat} : lenVS (.sl id o n c) = some (.i .i64 n) := rfl
@[go_sem] theorem lenVS_nsl : lenVS .nsl = some (.i .i64 0) := rfl
@[go_sem] theorem lenVS_esl : lenVS .esl = some (.i .i64 0) := rfl
@[go_sem] theorem op1_lenV : @o1 S (.lenV x) env H ⟨K⟩ ↔ @onS (lenVS (opd env x)) ⟨fun v => K v H⟩ := op1_pure rfl
@[go_sem] theorem op1_lenA {n : Nat} : @o1 S (.lenA n) env H ⟨K⟩ ↔ K (.i .i64 n) H := op1_pure rfl
def lenMS (H : Mem) (x : AV) : Option AV := match x with
    | .m none => some (.i .i64 0)
    | .m (some r) => match H.get r with | .map l => some (.i .i64 l.length) | _ => none
    | _ => none
@[go_sem] theorem op1_lenM : @o1 S (.lenM x) env H ⟨K⟩ ↔ @onS (lenMS H (opd env x)) ⟨fun v => K v H⟩ := op1_pure rfl
def capVS (x : AV) : Option AV := match x with | .sl _ _ _ (some c) => some (.i .i64 c) | .nsl => some (.i .i64 0) | _ => none
@[go_sem] theorem op1_capV : @o1 S (.capV x) env H ⟨K⟩ ↔ @onS (capVS (opd env x)) ⟨fun v => K v H⟩ := op1_pure rfl
def mnmxS (mx : Bool) (l : List AV) : Option AV := match l with | v :: r => (match v with | .i .. => mnmxA mx v r | _ => none) | [] => none
@[go_sem] theorem op1_mnmx {mx : Bool} {l : List Opd} : @o1 S (.mnmx mx l) env H ⟨K⟩ ↔ @onS (mnmxS mx (l.map (opd env))) ⟨fun v => K v H⟩ := op1_pure rfl
end pure
section eff
variable {x y z c : Opd}
@[go_sem] theorem op1_alloc {zs : List AV} {sz t : Nat} : @o1 S (.alloc zs sz t) env H ⟨K⟩ ↔ K (.p (some (H.next, 0))) (H.push (.mem zs sz t true 0)) := op1_eff rfl
@[go_sem] theorem op1_box {t : Nat} : @o1 S (.box t x) env H ⟨K⟩ ↔ (opd env x).cells.all AV.one = true ∧ K (.p (some (H.next, 0))) (H.push (.mem (opd env x).cells 0 t true 0)) := by
  rw [op1_eff rfl]; simp only [effA]
  by_cases h : (opd env x).cells.all AV.one = true
  · simp [onE, h]
  · simp [onE, h]
theorem op1_buildSl {zs : List AV} {n sz t : Nat} {ps : List (Nat × Opd)} : @o1 S (.buildSl zs n sz t ps) env H ⟨K⟩ ↔ (zs.length = sz ∧ n * sz ≤ 16777216 ∧ 0 < sz) ∧ (match fillA (repeatL zs n) (ps.map fun q => (q.1 * sz, sz, opd env q.2)) with | some l => K (.sl H.next 0 n (some n)) (H.push (.mem l sz t true 0)) | none => False) := by
  rw [op1_eff rfl]; simp only [effA]
  by_cases h : zs.length = sz ∧ n * sz ≤ 16777216 ∧ 0 < sz
  · rw [if_pos h]
    cases fillA (repeatL zs n) (ps.map fun q => (q.1 * sz, sz, opd env q.2)) <;> simp [onE, h]
  · rw [if_neg h]; simp [onE, h]
def stoS (H : Mem) (n : Nat) (p v : AV) : Option (AV × Mem) := match p with
    | .p (some (id, off)) => if v.cells.length = n then (sto H id off v.cells).map fun H' => (undefA, H') else none
    | _ => none
theorem stoS_p {n id off : Nat} {v : AV} : stoS H n (.p (some (id, off))) v = if v.cells.length = n then (sto H id off v.cells).map fun H' => (undefA, H') else none := rfl
@[go_sem] theorem op1_store {n : Nat} : @o1 S (.store n x y) env H ⟨K⟩ ↔ @onE (stoS H n (opd env x) (opd env y)) ⟨K⟩ := op1_eff rfl
def bytS (H : Mem) (e : Nat) (x : AV) : Option (AV × Mem) := match x with
    | .s l => if l.length ≤ 140737488355328 then some (.sl H.next 0 l.length none, H.push (.mem (l.map fun c => .i .u8 c.toNat) 1 e true 0)) else none
    | _ => none
@[go_sem] theorem op1_bytes {e : Nat} : @o1 S (.conv (.bytes e) x) env H ⟨K⟩ ↔ @onE (bytS H e (opd env x)) ⟨K⟩ := op1_eff rfl
@[go_sem] theorem bytS_s {e : Nat} {l : List UInt8} : bytS H e (.s l) = if l.length ≤ 140737488355328 then some (.sl H.next 0 l.length none, H.push (.mem (l.map fun c => .i .u8 c.toNat) 1 e true 0)) else none := rfl
@[go_sem] theorem op1_mkmap : @o1 S .mkmap env H ⟨K⟩ ↔ K (.m (some H.next)) (H.push (.map [])) := op1_eff rfl
def updS (H : Mem) (k : EqK) (m x v : AV) : Option (AV × Mem) := match m with
    | .m (some r) => match H.get r with
      | .map l => match updA k x v l with
        | some l' => some (undefA, H.put r (.map l'))
        | none => none
      | _ => none
    | _ => none
@[go_sem] theorem op1_upd {k : EqK} : @o1 S (.upd k x y z) env H ⟨K⟩ ↔ @onE (updS H k (opd env x) (opd env y) (opd env z)) ⟨K⟩ := op1_eff rfl
def mkslS (H : Mem) (zs : List AV) (sz bytes t : Nat) (l c : AV) : Option (AV × Mem) := match natOf l, natOf c with
    | some l, some c => if l ≤ c ∧ c * bytes ≤ 140737488355328 ∧ c ≤ 140737488355328 ∧ zs.length = sz ∧ 0 < sz then some (.sl H.next 0 l (some c), H.push (.mem (repeatL zs c) sz t true 0)) else none
    | _, _ => none
@[go_sem] theorem op1_mksl {zs : List AV} {sz bytes t : Nat} : @o1 S (.mksl zs sz bytes t x y) env H ⟨K⟩ ↔ @onE (mkslS H zs sz bytes t (opd env x) (opd env y)) ⟨K⟩ := op1_eff rfl
@[go_sem] theorem op1_app {sz bytes t : Nat} {zs : List AV} : @o1 S (.app sz bytes t zs x y) env H ⟨K⟩ ↔ @onE (appA H sz bytes t zs (opd env x) (opd env y)) ⟨K⟩ := op1_eff rfl
@[go_sem] theorem op1_copy {sz : Nat} : @o1 S (.copy sz x y) env H ⟨K⟩ ↔ @onE (copyA H sz (opd env x) (opd env y)) ⟨K⟩ := op1_eff rfl
theorem op1_call' {o : AOp} (h : o.kd = .call) {c : Cal} {args : List AV} (hc : callA env o = some (c, args)) : @o1 S o env H ⟨K⟩ ↔ @R S c args H ⟨K⟩ := by
  unfold o1 Op1 R; rw [h]; simp only [hc]
@[go_sem] theorem op1_call {f : Nat} {args : List Opd} : @o1 S (.call f args) env H ⟨K⟩ ↔ @R S (.f f) (args.map (opd env)) H ⟨K⟩ := op1_call' rfl rfl
def callS (S : Sys) (f : AV) (args : List AV) (H : Mem) [K : Bx (AV → Mem → Prop)] : Prop := match f with
  | .fn f first cap => S.Run (.f f) (first ++ args ++ cap) H K.un
  | .yld l => S.Run (.y l) args H K.un
  | _ => False
@[go_sem] theorem op1_callv {f : Opd} {args : List Opd} : @o1 S (.callv f args) env H ⟨K⟩ ↔ @callS S (opd env f) (args.map (opd env)) H ⟨K⟩ := by
  unfold o1 Op1 callS
  simp only [AOp.kd, callA]
  cases opd env f <;> simp
@[go_sem] theorem callS_fn {f : Nat} {first cap args : List AV} : @callS S (.fn f first cap) args H ⟨K⟩ ↔ @R S (.f f) (first ++ args ++ cap) H ⟨K⟩ := Iff.rfl
@[go_sem] theorem callS_yld {l : Nat} {args : List AV} : @callS S (.yld l) args H ⟨K⟩ ↔ @R S (.y l) args H ⟨K⟩ := Iff.rfl
end eff
/-! ### Tests that are decided -/
@[go_sem] theorem onS_if {c : Prop} [Decidable c] {a : Option AV} {K : AV → Prop} (h : c) : @onS (if c then a else none) ⟨K⟩ ↔ @onS a ⟨K⟩ := by rw [if_pos h]
@[go_sem] theorem onE_if {c : Prop} [Decidable c] {a : Option (AV × Mem)} (h : c) : @onE (if c then a else none) ⟨K⟩ ↔ @onE a ⟨K⟩ := by rw [if_pos h]
/-! ### Temporaries -/
@[go_sem] theorem opd_t {p : Pth} : opd env (.t p) = env.get p := rfl
@[go_sem] theorem opd_c {v : AV} : opd env (.c v) = v := rfl
@[go_sem] theorem opd_g {n : Nat} : opd env (.g n) = .p (some (n, 0)) := rfl
@[go_sem] theorem opd_f {n : Nat} : opd env (.f n) = .fn n [] [] := rfl
@[go_sem] theorem get_h {v : AV} {l r : Tr} : Tr.get (.n v l r) .h = v := rfl
@[go_sem] theorem get_l {v : AV} {l r : Tr} {p : Pth} : Tr.get (.n v l r) (.l p) = l.get p := rfl
@[go_sem] theorem get_r {v : AV} {l r : Tr} {p : Pth} : Tr.get (.n v l r) (.r p) = r.get p := rfl
attribute [go_sem] Tr.get_e
@[go_sem] theorem set_h {u v : AV} {l r : Tr} : Tr.set (.n u l r) .h v = .n v l r := rfl
@[go_sem] theorem set_l {u v : AV} {l r : Tr} {p : Pth} : Tr.set (.n u l r) (.l p) v = .n u (l.set p v) r := rfl
@[go_sem] theorem set_r {u v : AV} {l r : Tr} {p : Pth} : Tr.set (.n u l r) (.r p) v = .n u l (r.set p v) := rfl
@[go_sem] theorem putE_some {d : Pth} {v : AV} : putE env (some d) v = env.set d v := rfl
@[go_sem] theorem putE_none {v : AV} : putE env none v = env := rfl
/-! ### Arithmetic -/
section arith
variable {e : EqK} {k j : IntKind} {a b : Int}
@[go_sem] theorem bin_add : binA .add e (.i k a) (.i k b) = some (.i k (k.wrap (a + b))) := by simp [binA, binI, wr_eq]
@[go_sem] theorem bin_sub : binA .sub e (.i k a) (.i k b) = some (.i k (k.wrap (a - b))) := by simp [binA, binI, wr_eq]
@[go_sem] theorem bin_mul : binA .mul e (.i k a) (.i k b) = some (.i k (k.wrap (a * b))) := by simp [binA, binI, wr_eq]
@[go_sem] theorem bin_quo : binA .quo e (.i k a) (.i k b) = if b = 0 then none else some (.i k (k.wrap (a.tdiv b))) := by
  simp only [binA, binI, wr_eq, eqI_eq, if_true]; by_cases h : b = 0
  · simp [h]
  · rw [if_neg h, show (b == 0) = false by simpa using h]; rfl
@[go_sem] theorem bin_rem : binA .rem e (.i k a) (.i k b) = if b = 0 then none else some (.i k (a.tmod b)) := by
  simp only [binA, binI, eqI_eq, if_true]; by_cases h : b = 0
  · simp [h]
  · rw [if_neg h, show (b == 0) = false by simpa using h]; rfl
@[go_sem] theorem bin_and : binA .and e (.i k a) (.i k b) = some (.i k (k.wrap ((BitVec.ofInt k.bits a &&& BitVec.ofInt k.bits b).toNat))) := by simp [binA, binI, wr_eq]
@[go_sem] theorem bin_xor : binA .xor e (.i k a) (.i k b) = some (.i k (k.wrap ((BitVec.ofInt k.bits a ^^^ BitVec.ofInt k.bits b).toNat))) := by simp [binA, binI, wr_eq]
@[go_sem] theorem bin_or : binA .or e (.i k a) (.i k b) = some (.i k (k.wrap ((BitVec.ofInt k.bits a ||| BitVec.ofInt k.bits b).toNat))) := by simp [binA, binI, wr_eq]
@[go_sem] theorem bin_eql : binA .eql e (.i k a) (.i k b) = some (.b (decide (a = b))) := by
  simp only [binA, binI, eqI_eq, if_true]; rfl
@[go_sem] theorem bin_neq : binA .neq e (.i k a) (.i k b) = some (.b (decide (¬ a = b))) := by
  simp only [binA, binI, eqI_eq, if_true]; rw [decide_not]; rfl
@[go_sem] theorem bin_lss : binA .lss e (.i k a) (.i k b) = some (.b (decide (a < b))) := by simp [binA, binI, ltI_eq]
@[go_sem] theorem bin_leq : binA .leq e (.i k a) (.i k b) = some (.b (decide (a ≤ b))) := by
  simp only [binA, binI, ltI_eq, if_true, Option.some.injEq, AV.b.injEq]; rw [← decide_not]; simp
@[go_sem] theorem bin_gtr : binA .gtr e (.i k a) (.i k b) = some (.b (decide (b < a))) := by simp [binA, binI, ltI_eq]
@[go_sem] theorem bin_geq : binA .geq e (.i k a) (.i k b) = some (.b (decide (b ≤ a))) := by
  simp only [binA, binI, ltI_eq, if_true, Option.some.injEq, AV.b.injEq]; rw [← decide_not]; simp
@[go_sem] theorem bin_shl : binA .shl e (.i k a) (.i j b) = if b < 0 then none else some (.i k (k.wrap (a * 2 ^ (min b.toNat k.bits)))) := by
  simp only [binA, ltI_eq, wr_eq]; by_cases h : b < 0 <;> simp [h]
@[go_sem] theorem bin_shr : binA .shr e (.i k a) (.i j b) = if b < 0 then none else some (.i k (a.fdiv (2 ^ (min b.toNat k.bits)))) := by
  simp only [binA, ltI_eq]; by_cases h : b < 0 <;> simp [h]
variable {s t : List UInt8}
@[go_sem] theorem bins_add : binA .add e (.s s) (.s t) = if s.length + t.length ≤ 9223372036854775807 then some (.s (s ++ t)) else none := by
  simp only [binA, binS]
  by_cases h : s.length + t.length ≤ 9223372036854775807
  · rw [if_pos h, Nat.ble_eq_true_of_le h]; rfl
  · rw [if_neg h]
    cases hb : Nat.ble (s.length + t.length) 9223372036854775807 with
    | true => exact absurd (Nat.le_of_ble_eq_true hb) h
    | false => rfl
@[go_sem] theorem bins_eql : binA .eql e (.s s) (.s t) = some (.b (decide (s = t))) := by simp only [binA, binS, eqB_eq]; by_cases h : s = t <;> simp [h]
@[go_sem] theorem bins_neq : binA .neq e (.s s) (.s t) = some (.b (decide (¬ s = t))) := by simp only [binA, binS, eqB_eq]; by_cases h : s = t <;> simp [h]
@[go_sem] theorem un_not {b : Bool} : unA .not (.b b) = some (.b (!b)) := rfl
@[go_sem] theorem un_neg : unA .neg (.i k a) = some (.i k (k.wrap (0 - a))) := by simp [unA, wr_eq]
end arith
@[go_sem] theorem binb_eql {e : EqK} {x y : AV} : binA .eql e (.b true) (.b true) = (eqA e (.b true) (.b true)).map .b := rfl
/-! ### Memory -/
@[go_sem] theorem get_push_new {o : AO} : (H.push o).get H.next = o := Mem.get_push_same _ _
@[go_sem] theorem get_push_old {o : AO} {j : Nat} (h : j < H.next) : (H.push o).get j = H.get j := by rw [Mem.get_push, if_neg (by omega)]
@[go_sem] theorem get_put_this {o : AO} {j : Nat} : (H.put j o).get j = o := Mem.get_put_same _ _ _
@[go_sem] theorem get_put_other {o : AO} {i j : Nat} (h : j ≠ i) : (H.put i o).get j = H.get j := by rw [Mem.get_put, if_neg h]
attribute [go_sem] Mem.next_push Mem.next_put Mem.get_mark Mem.next_mark Mem.marks_mark Mem.marks_push Mem.marks_put
theorem ld_one {id off n : Nat} {l : List AV} {sz t frz : Nat} {own : Bool} (h : H.get id = .mem l sz t own frz) : ld H false n id off = l[off]? := by
  unfold ld; rw [h]; rfl
theorem ld_agg {id off n : Nat} {l : List AV} {sz t frz : Nat} {own : Bool} (h : H.get id = .mem l sz t own frz) : ld H true n id off = if off + n ≤ l.length then some (.agg ((l.drop off).take n)) else none := by
  unfold ld; rw [h]; rfl
theorem sto_at {id off : Nat} {l xs : List AV} {sz t frz : Nat} (h : H.get id = .mem l sz t true frz) : sto H id off xs = if frz ≤ off ∧ off + xs.length ≤ l.length ∧ xs.all AV.one = true then some (H.put id (.mem (splice l xs off) sz t true frz)) else none := by
  unfold sto; rw [h]
theorem wrap_i64 {n : Int} (h1 : -9223372036854775808 ≤ n) (h2 : n < 9223372036854775808) : IntKind.i64.wrap n = n := wrap_in _ _ (fun _ => by simpa [half] using h1) (fun e => by cases e) (by simpa [half] using h2)
theorem wrap_u8 {n : Int} (h1 : 0 ≤ n) (h2 : n < 256) : IntKind.u8.wrap n = n := wrap_in _ _ (fun e => by cases e) (fun _ => h1) (by simpa [half] using h2)
theorem wrap_i32 {n : Int} (h1 : -2147483648 ≤ n) (h2 : n < 2147483648) : IntKind.i32.wrap n = n := wrap_in _ _ (fun _ => by simpa [half] using h1) (fun e => by cases e) (by simpa [half] using h2)
attribute [go_sem] wrap_i64 wrap_u8 wrap_i32
/-! ### Index and slice -/
theorem natOf_i {k : IntKind} {n : Int} : natOf (.i k n) = if 0 ≤ n then some n.toNat else none := by
  cases n with
  | ofNat n => simp [natOf]
  | negSucc n => rw [if_neg (by omega)]; rfl
@[go_sem] theorem natOf_pos {k : IntKind} {n : Int} (h : 0 ≤ n) : natOf (.i k n) = some n.toNat := by rw [natOf_i, if_pos h]
theorem natOf_nat {k : IntKind} {n : Nat} : natOf (.i k (n : Int)) = some n := rfl
@[go_sem] theorem ixSS_s {l : List UInt8} {k : IntKind} {n : Int} (h : 0 ≤ n) : ixSS (.s l) (.i k n) = (l[n.toNat]?).map fun c => .i .u8 (c.toNat : Int) := by
  simp only [ixSS, natOf_i, if_pos h]; cases l[n.toNat]? <;> rfl
@[go_sem] theorem ixVS_sl {id off len sz : Nat} {cap : Option Nat} {k : IntKind} {n : Int} : ixVS sz (.sl id off len cap) (.i k n) = if 0 ≤ n ∧ n < len then some (.p (some (id, off + n.toNat * sz))) else none := by
  simp only [ixVS, natOf_i]
  by_cases h : 0 ≤ n
  · simp only [if_pos h]
    by_cases h2 : n < len
    · rw [if_pos (by omega), if_pos ⟨h, h2⟩]
    · rw [if_neg (by omega), if_neg (fun c => h2 c.2)]
  · simp only [if_neg h, h, false_and, if_false]
@[go_sem] theorem ixAS_p {id off n sz : Nat} {k : IntKind} {m : Int} : ixAS n sz (.p (some (id, off))) (.i k m) = if 0 ≤ m ∧ m < n then some (.p (some (id, off + m.toNat * sz))) else none := by
  simp only [ixAS, natOf_i]
  by_cases h : 0 ≤ m
  · simp only [if_pos h]
    by_cases h2 : m < n
    · rw [if_pos (by omega), if_pos ⟨h, h2⟩]
    · rw [if_neg (by omega), if_neg (fun c => h2 c.2)]
  · simp only [if_neg h, h, false_and, if_false]
def slC (s : List UInt8) (h l : Option Nat) : Option AV := match h, l with
    | some h, some l => if l ≤ h ∧ h ≤ s.length then some (.s ((s.drop l).take (h - l))) else none
    | _, _ => none
@[go_sem] theorem slSA_s {s : List UInt8} {lo hi : Option AV} : slSA (.s s) lo hi = slC s (bnd hi s.length) (bnd lo 0) := rfl
@[go_sem] theorem slC_some {s : List UInt8} {h l : Nat} (h1 : l ≤ h) (h2 : h ≤ s.length) : slC s (some h) (some l) = some (.s ((s.drop l).take (h - l))) := if_pos ⟨h1, h2⟩
@[go_sem] theorem bnd_none {d : Nat} : bnd none d = some d := rfl
@[go_sem] theorem bnd_some {v : AV} {d : Nat} : bnd (some v) d = natOf v := rfl
attribute [go_sem] not_false_eq_true not_true_eq_false Int.cast_ofNat_Int beqN cond_true cond_false List.map_cons List.map_nil List.getElem?_cons_zero List.getElem?_cons_succ List.length_cons List.length_nil List.drop_succ_cons List.drop_zero List.take_succ_cons List.take_zero Option.map_some Option.map_none Int.toNat_natCast Int.toNat_zero Int.toNat_one decide_true decide_false Bool.not_true Bool.not_false
/-! ### The end -/
@[go_sem] theorem fin_rt {res : List RV} {ms : List Nat} {Q : AV → Mem → Prop} : fin res ms Q .rt env H ↔ (match endMarks H.marks H with | some H2 => @onS (resA env H2 res) ⟨fun v => Q v (H2.mark ms)⟩ | none => False) := Iff.rfl
@[go_sem] theorem fin_nm {res : List RV} {ms : List Nat} {Q : AV → Mem → Prop} : fin res ms Q .nm env H ↔ (match endMarks H.marks H with | some H2 => @onS (resA env H2 res) ⟨fun v => Q v (H2.mark ms)⟩ | none => False) := Iff.rfl
theorem run_fn2 {f N : Nat} {res : List RV} {body : AC} {args : List AV} (hF : S.F f = some ⟨N, res, body⟩) (hX : S.X (.f f) args H = none) (h : @W S false body (argsE 0 args (trU N)) (H.mark []) ⟨fin res H.marks K⟩) : @R S (.f f) args H ⟨K⟩ := run_fn hF hX h
theorem run_b2 {f N : Nat} {res : List RV} {body : AC} {args : List AV} (hF : S.F f = some ⟨N, res, body⟩) (hX : S.X (.b f) args H = none) (h : @W S false body (argsE 0 args (trU N)) (H.mark []) ⟨fin res H.marks K⟩) : @R S (.b f) args H ⟨K⟩ := run_b hF hX h
theorem run_iff {c : Cal} {args : List AV} {v : AV} {H' : Mem} (h : ∀ K : AV → Mem → Prop, K v H' → @R S c args H ⟨K⟩) : @R S c args H ⟨K⟩ ↔ K v H' := by
  refine ⟨fun k => ?_, h K⟩
  obtain ⟨n, v1, H1, e1, q1⟩ := k
  obtain ⟨m, v2, H2, e2, q2, q3⟩ := h (fun a b => a = v ∧ b = H') ⟨rfl, rfl⟩
  have := run_det e1 e2
  injection this with x y
  rw [← q2, ← q3, ← x, ← y]; exact q1
@[go_sem] theorem argsE0 : Sys.argsE 0 [] env = env := rfl
@[go_sem] theorem argsE1 {a : AV} : Sys.argsE 0 [a] env = env.set .h a := rfl
@[go_sem] theorem argsE2 {a b : AV} : Sys.argsE 0 [a, b] env = (env.set .h a).set (.l .h) b := rfl
@[go_sem] theorem argsE3 {a b c : AV} : Sys.argsE 0 [a, b, c] env = ((env.set .h a).set (.l .h) b).set (.r .h) c := rfl
@[go_sem] theorem argsE4 {a b c d : AV} : Sys.argsE 0 [a, b, c, d] env = (((env.set .h a).set (.l .h) b).set (.r .h) c).set (.l (.l .h)) d := rfl
@[go_sem] theorem res1 {p : Pth} : resA env H [.t p] = some (env.get p) := rfl
@[go_sem] theorem res2 {p q : Pth} : resA env H [.t p, .t q] = some (.tup [env.get p, env.get q]) := rfl
@[go_sem] theorem res3 {p q r : Pth} : resA env H [.t p, .t q, .t r] = some (.tup [env.get p, env.get q, env.get r]) := rfl
@[go_sem] theorem endM0 : endMarks [] H = some H := rfl
@[go_sem] theorem mark_mark {l k : List Nat} : (H.mark l).mark k = H.mark k := rfl
@[go_sem] theorem mark_self : H.mark H.marks = H := rfl
@[go_sem] theorem mark_push {o : AO} {l : List Nat} : (H.push o).mark l = (H.mark l).push o := rfl
@[go_sem] theorem mark_put {i : Nat} {o : AO} {l : List Nat} : (H.put i o).mark l = (H.mark l).put i o := rfl
/-- Temporaries, written out, are those of a function of their numbers. -/
theorem atQ (N : Nat) {e : Ex} (he : env = trO N fun k => env.get (pth k)) (h : Q e (trO N fun k => env.get (pth k)) H) : Q e env H := by rw [he]; exact h
theorem atW (N : Nat) {c : AC} (he : env = trO N fun k => env.get (pth k)) (h : @W S rd c (trO N fun k => env.get (pth k)) H ⟨Q⟩) : @W S rd c env H ⟨Q⟩ := by rw [he]; exact h
theorem kI {k : IntKind} {a b : Int} (e : a = b) (h : K (.i k b) H) : K (.i k a) H := e ▸ h
theorem kS {a b : List UInt8} (e : a = b) (h : K (.s b) H) : K (.s a) H := e ▸ h
theorem kb {a b : Bool} (e : a = b) (h : K (.b b) H) : K (.b a) H := e ▸ h
/-- A function that has made no marks. -/
theorem fin_plain {res : List RV} {ms : List Nat} {Q : AV → Mem → Prop} {e : Ex} (he : e = .rt ∨ e = .nm) (hm : H.marks = []) (h : @onS (resA env H res) ⟨fun v => Q v (H.mark ms)⟩) : fin res ms Q e env H := by
  rcases he with rfl | rfl <;> (simp only [fin, hm, endMarks]; exact h)
end Sys
end Go.Fw
end
section
/- Symbolic evaluation, part C: the rule for regions that draw their order; the one evaluator of such regions. -/
namespace Go.Fw
open Go.RowKit
def drAB : DregF := fun cf al before env H => match statOK al before with
  | true => drA cf al before env H
  | false => drB cf al before env H
theorem drAB_ok {P : Program} (hm : P.follows .mixedOrders = true) : DregOK P drAB := by
  intro cf hcf B w0 N rd r n id ops al a env H w μ env' H' Q hal hr hg he hd hv hQ
  unfold drAB at hv
  split at hv
  · exact dreg_ok hm cf hcf B w0 N rd r n id ops al a env H w μ env' H' Q hal hr hg he hd hv hQ
  · exact dregB_ok hm cf hcf B w0 N rd r n id ops al a env H w μ env' H' Q hal hr hg he hd hv hQ
theorem bgo_mono {a b : CallF} (h : leCF a b) (before : List (List Nat)) : ∀ {l : List AOper} {i id : Nat} {nw : List NW} {K : List Nat} {env : Tr} {H : Mem} {r : Bout}, bgo a before l i id nw K env H = some r → bgo b before l i id nw K env H = some r
  | [], _, _, _, _, _, _, _, hv => hv
  | o :: l, i, id, nw, K, env, H, r, hv => by
    simp only [bgo] at hv ⊢
    split at hv
    · rw [putA_eq] at hv ⊢
      obtain ⟨sub, hs, rfl⟩ := Option.map_eq_some_iff.1 hv
      rw [bgo_mono h before hs]; rfl
    · split at hv
      · split at hv <;> try (cases hv; done)
        rw [frcV_eq, putA_eq] at hv ⊢
        obtain ⟨sub, hs, rfl⟩ := Option.map_eq_some_iff.1 hv
        rw [bgo_mono h before hs]; rfl
      · split at hv
        · split at hv <;> try (cases hv; done)
          rw [frcV_eq, putA_eq] at hv ⊢
          obtain ⟨sub, hs, rfl⟩ := Option.map_eq_some_iff.1 hv
          rw [bgo_mono h before hs]; rfl
        · split at hv <;> try (cases hv; done)
          rename_i hop
          rw [evOp_mono h hop]
          simp only
          rw [frcV_eq, frcM_eq, putA_eq] at hv ⊢
          obtain ⟨sub, hs, rfl⟩ := Option.map_eq_some_iff.1 hv
          rw [bgo_mono h before hs]; rfl
theorem drB_mono' {a b : CallF} (h : leCF a b) {l bf env H r} (hv : drB a l bf env H = some r) : drB b l bf env H = some r := by
  unfold drB at hv ⊢
  rw [frcN_eq] at hv ⊢
  split at hv
  · rename_i out e
    rw [bgo_mono h _ e]
    exact hv
  · cases hv
theorem drAB_mono : MonoDr drAB := fun a b h l bf env H r hv => by
  unfold drAB at hv ⊢
  cases hs : statOK l bf with
  | true => rw [hs] at hv; exact drA_mono a b h l bf env H r hv
  | false => rw [hs] at hv; exact drB_mono' h hv
mutual
theorem sameV_self : ∀ v : AV, sameV v v = true
  | .b _ => by simp [sameV]
  | .i _ _ => by simp [sameV, eqI_eq]
  | .s _ => by simp [sameV, eqB_eq]
  | .p _ => by simp [sameV]
  | .sl .. => by simp [sameV, beqN]
  | .esl => rfl
  | .nsl => rfl
  | .m _ => by simp [sameV]
  | .fn _ a b => by simp [sameV, beqN, sameVs_self a, sameVs_self b]
  | .nfn => rfl
  | .ifc _ v => by simp [sameV, beqN, sameV_self v]
  | .nif => rfl
  | .agg l => by simp [sameV, sameVs_self l]
  | .tup l => by simp [sameV, sameVs_self l]
  | .yld _ => by simp [sameV, beqN]
theorem sameVs_self : ∀ l : List AV, sameVs l l = true
  | [] => rfl
  | x :: l => by simp [sameVs, sameV_self x, sameVs_self l]
end
attribute [go_sem] sameV_self
namespace Sys
variable {S : Sys} {rd : Bool} {env : Tr} {H : Mem} {Q : Ex → Tr → Mem → Prop}
/-- A region in its text's order: what each operation yields; the memories behind its effects. -/
def Dg (S : Sys) (l : List AOper) (env : Tr) (H : Mem) (Q : List AV → List Mem → Tr → Mem → Prop) : Prop := ∃ n vs Cs env' H', dgo (S.ev n) l env H = some (vs, Cs, env', H') ∧ Q vs Cs env' H'
def D (S : Sys) (l : List AOper) (env : Tr) (H : Mem) [Q : Bx (List AV → List Mem → Tr → Mem → Prop)] : Prop := S.Dg l env H Q.un
@[go_sem] theorem dg_nil {Q : List AV → List Mem → Tr → Mem → Prop} : @D S [] env H ⟨Q⟩ ↔ Q [] [] env H := by
  show S.Dg _ _ _ _ ↔ _
  constructor
  · rintro ⟨n, vs, Cs, env', H', h, q⟩
    simp only [dgo, Option.some.injEq, Prod.mk.injEq] at h
    obtain ⟨rfl, rfl, rfl, rfl⟩ := h; exact q
  · intro q; exact ⟨0, _, _, _, _, rfl, q⟩
def cns (v : AV) (o : AOp) (H' : Mem) (Q : List AV → List Mem → Tr → Mem → Prop) : List AV → List Mem → Tr → Mem → Prop := fun vs Cs e h => Q (v :: vs) (bif o.effect then H' :: Cs else Cs) e h
@[go_sem] theorem cns_iff {v : AV} {o : AOp} {H' h : Mem} {Q : List AV → List Mem → Tr → Mem → Prop} {vs : List AV} {Cs : List Mem} {e : Tr} : cns v o H' Q vs Cs e h ↔ Q (v :: vs) (bif o.effect then H' :: Cs else Cs) e h := Iff.rfl
@[go_sem] theorem dg_cons {d : Option Pth} {o : AOp} {l : List AOper} {Q : List AV → List Mem → Tr → Mem → Prop} : @D S (⟨d, o, none⟩ :: l) env H ⟨Q⟩ ↔ @o1 S o env H ⟨fun v H' => @D S l (putE env d v) H' ⟨cns v o H' Q⟩⟩ := by
  show S.Dg _ _ _ _ ↔ S.Op1 _ _ _ _
  rw [op1_iff]
  constructor
  · rintro ⟨n, vs, Cs, env', H', h, q⟩
    simp only [dgo, wantA] at h
    split at h
    · rename_i v H1 h1
      simp only [frcV_eq, frcM_eq, putA_eq] at h
      split at h
      · rename_i vs1 Cs1 e1 h2 hd
        simp only [Option.some.injEq, Prod.mk.injEq] at h
        obtain ⟨rfl, rfl, rfl, rfl⟩ := h
        exact ⟨n, v, H1, h1, ⟨n, vs1, Cs1, e1, h2, hd, q⟩⟩
      · cases h
    · cases h
  · rintro ⟨n, v, H1, h1, ⟨m, vs, Cs, env', H', h, q⟩⟩
    refine ⟨max n m, _, _, env', H', ?_, q⟩
    simp only [dgo, wantA, evOp_mono (S.ev_mono (Nat.le_max_left n m)) h1, frcV_eq, frcM_eq, putA_eq, dgo_mono (S.ev_mono (Nat.le_max_right n m)) h]
@[go_sem] theorem dg_grd {d : Option Pth} {o : AOp} {p : Pth} {b : Bool} {l : List AOper} {Q : List AV → List Mem → Tr → Mem → Prop} : @D S (⟨d, o, some (p, b)⟩ :: l) env H ⟨Q⟩ ↔ @grd (env.get p) b ⟨@D S (⟨d, o, none⟩ :: l) env H ⟨Q⟩⟩ ⟨@D S l (putE env d undefA) H ⟨cns undefA o H Q⟩⟩ := by
  show S.Dg _ _ _ Q ↔ grd0 _ _ (S.Dg _ _ _ Q) (S.Dg _ _ _ (cns undefA o H Q))
  have key : S.Dg (⟨d, o, some (p, b)⟩ :: l) env H Q ↔ (match wantA env (some (p, b)) with | true => S.Dg (⟨d, o, none⟩ :: l) env H Q | false => S.Dg l (putE env d undefA) H (cns undefA o H Q)) := by
    constructor
    · rintro ⟨n, vs, Cs, env', H', h, q⟩
      simp only [dgo] at h
      cases hw : wantA env (some (p, b)) with
      | true => rw [hw] at h; exact ⟨n, vs, Cs, env', H', by simp only [dgo, wantA]; exact h, q⟩
      | false =>
        rw [hw] at h; simp only [putA_eq] at h
        split at h
        · rename_i vs1 Cs1 e1 h2 hd
          simp only [Option.some.injEq, Prod.mk.injEq] at h
          obtain ⟨rfl, rfl, rfl, rfl⟩ := h
          exact ⟨n, vs1, Cs1, e1, h2, hd, q⟩
        · cases h
    · intro h
      cases hw : wantA env (some (p, b)) with
      | true =>
        rw [hw] at h; obtain ⟨n, vs, Cs, env', H', h, q⟩ := h
        exact ⟨n, vs, Cs, env', H', by simp only [dgo, wantA] at h; simp only [dgo, hw]; exact h, q⟩
      | false =>
        rw [hw] at h; obtain ⟨n, vs, Cs, env', H', h, q⟩ := h
        exact ⟨n, _, _, env', H', by simp only [dgo, hw, putA_eq, h], q⟩
  rw [key]
  simp only [wantA]
  cases h : env.get p with
  | b x => cases x <;> cases b <;> simp [grd0]
  | _ => simp [grd0]
attribute [go_sem] lowE highE memN List.any_cons List.any_nil Bool.or_false Bool.false_or Bool.or_true Bool.true_or Bool.or_self Bool.and_self Bool.and_false Bool.false_and List.take_nil List.drop_nil
@[go_sem] theorem efk_mv {x : Opd} : AOp.effect (.mv x) = false := rfl
@[go_sem] theorem efk_pick {x y z : Opd} : AOp.effect (.pick x y z) = false := rfl
@[go_sem] theorem efk_build {z : List AV} {p : List (Nat × Nat × Opd)} : AOp.effect (.build z p) = false := rfl
@[go_sem] theorem efk_load {a : Bool} {n : Nat} {x : Opd} : AOp.effect (.load a n x) = false := rfl
@[go_sem] theorem efk_nilc {x : Opd} : AOp.effect (.nilc x) = false := rfl
@[go_sem] theorem efk_bin {o : BinOp} {e : EqK} {x y : Opd} : AOp.effect (.bin o e x y) = false := rfl
@[go_sem] theorem efk_un {o : UnOp} {x : Opd} : AOp.effect (.un o x) = false := rfl
@[go_sem] theorem efk_convI {k : IntKind} {x : Opd} : AOp.effect (.conv (.int k) x) = false := rfl
@[go_sem] theorem efk_slS {x : Opd} {a b : Option Opd} : AOp.effect (.slS x a b) = false := rfl
@[go_sem] theorem efk_slV {n : Nat} {x : Opd} {a b c : Option Opd} : AOp.effect (.slV n x a b c) = false := rfl
@[go_sem] theorem efk_slA {n k : Nat} {x : Opd} {a b : Option Opd} : AOp.effect (.slA n k x a b) = false := rfl
@[go_sem] theorem efk_fldA {n : Nat} {x : Opd} : AOp.effect (.fldA n x) = false := rfl
@[go_sem] theorem efk_fld {g : Bool} {n o : Nat} {x : Opd} : AOp.effect (.fld g n o x) = false := rfl
@[go_sem] theorem efk_ixA {n k : Nat} {x y : Opd} : AOp.effect (.ixA n k x y) = false := rfl
@[go_sem] theorem efk_ixV {n : Nat} {x y : Opd} : AOp.effect (.ixV n x y) = false := rfl
@[go_sem] theorem efk_ixS {x y : Opd} : AOp.effect (.ixS x y) = false := rfl
@[go_sem] theorem efk_ixG {g : Bool} {n k : Nat} {x y : Opd} : AOp.effect (.ixG g n k x y) = false := rfl
@[go_sem] theorem efk_ext {n : Nat} {x : Opd} : AOp.effect (.ext x n) = false := rfl
@[go_sem] theorem efk_lenS {x : Opd} : AOp.effect (.lenS x) = false := rfl
@[go_sem] theorem efk_lenV {x : Opd} : AOp.effect (.lenV x) = false := rfl
@[go_sem] theorem efk_capV {x : Opd} : AOp.effect (.capV x) = false := rfl
@[go_sem] theorem efk_alloc {z : List AV} {n t : Nat} : AOp.effect (.alloc z n t) = true := rfl
@[go_sem] theorem efk_box {t : Nat} {x : Opd} : AOp.effect (.box t x) = true := rfl
@[go_sem] theorem efk_buildSl {z : List AV} {n s t : Nat} {p : List (Nat × Opd)} : AOp.effect (.buildSl z n s t p) = true := rfl
@[go_sem] theorem efk_store {n : Nat} {x y : Opd} : AOp.effect (.store n x y) = true := rfl
@[go_sem] theorem efk_app {a b t : Nat} {z : List AV} {x y : Opd} : AOp.effect (.app a b t z x y) = true := rfl
@[go_sem] theorem efk_call {f : Nat} {a : List Opd} : AOp.effect (.call f a) = true := rfl
@[go_sem] theorem efk_callv {f : Opd} {a : List Opd} : AOp.effect (.callv f a) = true := rfl
@[go_sem] theorem efk_bytes {e : Nat} {x : Opd} : AOp.effect (.conv (.bytes e) x) = true := rfl
@[go_sem] theorem effs_cons {o : AOper} {r : List AOper} {i : Nat} : effs (o :: r) i = bif o.op.effect then i :: effs r (i + 1) else effs r (i + 1) := rfl
@[go_sem] theorem effs_nil {i : Nat} : effs [] i = [] := rfl
/-- What looks at memory, asked again. -/
def agn (x : Option AV) (v : AV) : Bool := match x with | some u => sameV u v | none => false
@[go_sem] theorem agn_some {u v : AV} : agn (some u) v = sameV u v := rfl
@[go_sem] theorem floatOK_nil {bf : List (List Nat)} {es : List Nat} {env : Tr} {Cs : List Mem} {vs : List AV} {i : Nat} : floatOK bf es env Cs [] vs i = true := by cases vs <;> rfl
@[go_sem] theorem floatOK_cons {bf : List (List Nat)} {es : List Nat} {env : Tr} {Cs : List Mem} {o : AOper} {r : List AOper} {v : AV} {vs : List AV} {i : Nat} : floatOK bf es env Cs (o :: r) (v :: vs) i = ((bif o.op.looks && !o.op.effect && wantA env o.g then (((Cs.drop (lowE (bf.getD i []) es 0 0)).take (highE bf i es 0 + 1 - lowE (bf.getD i []) es 0 0)).all fun H => agn (pureA env H o.op) v) else true) && floatOK bf es env Cs r vs (i + 1)) := rfl
@[go_sem] theorem pureA_load {H : Mem} {env : Tr} {a : Bool} {n : Nat} {x : Opd} : pureA env H (.load a n x) = loadS H a n (opd env x) := rfl
@[go_sem] theorem pureA_slV {H : Mem} {env : Tr} {n : Nat} {x : Opd} {a b c : Option Opd} : pureA env H (.slV n x a b c) = slVA H n (opd env x) (a.map (opd env)) (b.map (opd env)) (c.map (opd env)) := rfl
@[go_sem] theorem looks_load {a : Bool} {n : Nat} {x : Opd} : AOp.looks (.load a n x) = true := rfl
@[go_sem] theorem looks_slV {n : Nat} {x : Opd} {a b c : Option Opd} : AOp.looks (.slV n x a b c) = true := rfl
@[go_sem] theorem looks_slA {n k : Nat} {x : Opd} {a b : Option Opd} : AOp.looks (.slA n k x a b) = true := rfl
@[go_sem] theorem looks_mv {x : Opd} : AOp.looks (.mv x) = false := rfl
@[go_sem] theorem looks_pick {x y z : Opd} : AOp.looks (.pick x y z) = false := rfl
@[go_sem] theorem looks_build {z : List AV} {p : List (Nat × Nat × Opd)} : AOp.looks (.build z p) = false := rfl
@[go_sem] theorem looks_nilc {x : Opd} : AOp.looks (.nilc x) = false := rfl
@[go_sem] theorem looks_bin {o : BinOp} {e : EqK} {x y : Opd} : AOp.looks (.bin o e x y) = false := rfl
@[go_sem] theorem looks_un {o : UnOp} {x : Opd} : AOp.looks (.un o x) = false := rfl
@[go_sem] theorem looks_convI {k : IntKind} {x : Opd} : AOp.looks (.conv (.int k) x) = false := rfl
@[go_sem] theorem looks_slS {x : Opd} {a b : Option Opd} : AOp.looks (.slS x a b) = false := rfl
@[go_sem] theorem looks_fldA {n : Nat} {x : Opd} : AOp.looks (.fldA n x) = false := rfl
@[go_sem] theorem looks_fld {g : Bool} {n o : Nat} {x : Opd} : AOp.looks (.fld g n o x) = false := rfl
@[go_sem] theorem looks_ixA {n k : Nat} {x y : Opd} : AOp.looks (.ixA n k x y) = false := rfl
@[go_sem] theorem looks_ixV {n : Nat} {x y : Opd} : AOp.looks (.ixV n x y) = false := rfl
@[go_sem] theorem looks_ixS {x y : Opd} : AOp.looks (.ixS x y) = false := rfl
@[go_sem] theorem looks_ixG {g : Bool} {n k : Nat} {x y : Opd} : AOp.looks (.ixG g n k x y) = false := rfl
@[go_sem] theorem looks_ext {n : Nat} {x : Opd} : AOp.looks (.ext x n) = false := rfl
@[go_sem] theorem looks_lenS {x : Opd} : AOp.looks (.lenS x) = false := rfl
@[go_sem] theorem looks_lenV {x : Opd} : AOp.looks (.lenV x) = false := rfl
@[go_sem] theorem looks_capV {x : Opd} : AOp.looks (.capV x) = false := rfl
@[go_sem] theorem looks_alloc {z : List AV} {n t : Nat} : AOp.looks (.alloc z n t) = false := rfl
@[go_sem] theorem looks_box {t : Nat} {x : Opd} : AOp.looks (.box t x) = false := rfl
@[go_sem] theorem looks_buildSl {z : List AV} {n s t : Nat} {p : List (Nat × Opd)} : AOp.looks (.buildSl z n s t p) = false := rfl
@[go_sem] theorem looks_store {n : Nat} {x y : Opd} : AOp.looks (.store n x y) = false := rfl
@[go_sem] theorem looks_app {a b t : Nat} {z : List AV} {x y : Opd} : AOp.looks (.app a b t z x y) = false := rfl
@[go_sem] theorem looks_call {f : Nat} {a : List Opd} : AOp.looks (.call f a) = false := rfl
@[go_sem] theorem looks_callv {f : Opd} {a : List Opd} : AOp.looks (.callv f a) = false := rfl
@[go_sem] theorem wantA_none {env : Tr} : wantA env none = true := rfl
attribute [go_sem] List.getD_cons_zero List.getD_cons_succ List.getD_nil
theorem w_dregA {l : List AOper} {before : List (List Nat)} (hS : S.dr = drAB) (hs : statOK l before = true) (h : @D S l env H ⟨fun vs Cs env' H' => floatOK before (effs l 0) env' (H :: Cs) l vs 0 = true ∧ Q .nm env' H'⟩) : @W S rd (.dreg l before) env H ⟨Q⟩ := by
  obtain ⟨n, vs, Cs, env', H', hd, hf, q⟩ := h
  refine ⟨n, .nm, env', H', ?_, q⟩
  simp only [evCode, hS, drAB, hs, drA, hd, hf]
end Sys
end Go.Fw
end
section
/- Symbolic evaluation, part D: memory: what operations do to it, by what lies where; memory that grows; rows that are read, rows that grow. -/
namespace Go.Fw
open Go.RowKit
namespace Sys
variable {S : Sys} {env : Tr} {H : Mem}
theorem ite_T {α : Sort _} {inst : Decidable True} {a b : α} : @ite α True inst a b = a := if_pos trivial
theorem ite_F {α : Sort _} {inst : Decidable False} {a b : α} : @ite α False inst a b = b := if_neg id
attribute [go_sem] ite_T ite_F
@[go_sem] theorem dec_lt_t {a b : Int} {i : Decidable (a < b)} (h : a < b) : @decide (a < b) i = true := decide_eq_true h
@[go_sem] theorem dec_lt_f {a b : Int} {i : Decidable (a < b)} (h : b ≤ a) : @decide (a < b) i = false := decide_eq_false (by omega)
@[go_sem] theorem dec_le_t {a b : Int} {i : Decidable (a ≤ b)} (h : a ≤ b) : @decide (a ≤ b) i = true := decide_eq_true h
@[go_sem] theorem dec_le_f {a b : Int} {i : Decidable (a ≤ b)} (h : b < a) : @decide (a ≤ b) i = false := decide_eq_false (by omega)
@[go_sem] theorem dec_eq_t {a b : Int} {i : Decidable (a = b)} (h : a = b) : @decide (a = b) i = true := decide_eq_true h
@[go_sem] theorem dec_eq_f {a b : Int} {i : Decidable (a = b)} (h : a < b ∨ b < a) : @decide (a = b) i = false := decide_eq_false (by omega)
@[go_sem] theorem dec_ne_t {a b : Int} {i : Decidable (¬ a = b)} (h : a < b ∨ b < a) : @decide (¬ a = b) i = true := decide_eq_true (by omega)
@[go_sem] theorem dec_ne_f {a b : Int} {i : Decidable (¬ a = b)} (h : a = b) : @decide (¬ a = b) i = false := decide_eq_false (by omega)
/-! ### Cells -/
@[go_sem] theorem one_b {x : Bool} : AV.one (.b x) = true := rfl
@[go_sem] theorem one_i {k : IntKind} {x : Int} : AV.one (.i k x) = true := rfl
@[go_sem] theorem one_s {x : List UInt8} : AV.one (.s x) = true := rfl
@[go_sem] theorem one_p {x : Option (Nat × Nat)} : AV.one (.p x) = true := rfl
@[go_sem] theorem one_sl {a b c : Nat} {d : Option Nat} : AV.one (.sl a b c d) = true := rfl
@[go_sem] theorem one_nsl : AV.one .nsl = true := rfl
@[go_sem] theorem one_esl : AV.one .esl = true := rfl
@[go_sem] theorem one_m {x : Option Nat} : AV.one (.m x) = true := rfl
@[go_sem] theorem one_fn {f : Nat} {a b : List AV} : AV.one (.fn f a b) = true := rfl
@[go_sem] theorem one_nif : AV.one .nif = true := rfl
@[go_sem] theorem one_ifc {t : Nat} {v : AV} : AV.one (.ifc t v) = true := rfl
@[go_sem] theorem cells_agg {l : List AV} : AV.cells (.agg l) = l := rfl
theorem cells_of_one {v : AV} (h : v.one = true) : v.cells = [v] := by cases v <;> first | rfl | (simp [AV.one] at h)
@[go_sem] theorem cells_b {x : Bool} : AV.cells (.b x) = [.b x] := rfl
@[go_sem] theorem cells_i {k : IntKind} {x : Int} : AV.cells (.i k x) = [.i k x] := rfl
@[go_sem] theorem cells_s {x : List UInt8} : AV.cells (.s x) = [.s x] := rfl
@[go_sem] theorem cells_p {x : Option (Nat × Nat)} : AV.cells (.p x) = [.p x] := rfl
@[go_sem] theorem cells_sl {a b c : Nat} {d : Option Nat} : AV.cells (.sl a b c d) = [.sl a b c d] := rfl
@[go_sem] theorem cells_nsl : AV.cells .nsl = [.nsl] := rfl
@[go_sem] theorem cells_esl : AV.cells .esl = [.esl] := rfl
@[go_sem] theorem cells_m {x : Option Nat} : AV.cells (.m x) = [.m x] := rfl
@[go_sem] theorem cells_fn {f : Nat} {a b : List AV} : AV.cells (.fn f a b) = [.fn f a b] := rfl
@[go_sem] theorem cells_nif : AV.cells .nif = [.nif] := rfl
/-- A row that is built. -/
def bld (x : Option (List AV)) (H : Mem) (n sz t : Nat) [K : Bx (AV → Mem → Prop)] : Prop := match x with
  | some l => K.un (.sl H.next 0 n (some n)) (H.push (.mem l sz t true 0))
  | none => False
@[go_sem] theorem bld_some {l : List AV} {n sz t : Nat} {K : AV → Mem → Prop} : @bld (some l) H n sz t ⟨K⟩ ↔ K (.sl H.next 0 n (some n)) (H.push (.mem l sz t true 0)) := Iff.rfl
@[go_sem] theorem op1_buildSl' {zs : List AV} {n sz t : Nat} {ps : List (Nat × Opd)} {K : AV → Mem → Prop} (h : zs.length = sz ∧ n * sz ≤ 16777216 ∧ 0 < sz) : @o1 S (.buildSl zs n sz t ps) env H ⟨K⟩ ↔ @bld (fillA (repeatL zs n) (ps.map fun q => (q.1 * sz, sz, opd env q.2))) H n sz t ⟨K⟩ := by
  rw [op1_buildSl, and_iff_right h]; rfl
/-! ### What lies there -/
def ldO (o : AO) (agg : Bool) (n off : Nat) : Option AV := match o with
  | .mem l _ _ _ _ => if agg then (if off + n ≤ l.length then some (.agg ((l.drop off).take n)) else none) else l[off]?
  | _ => none
@[go_sem] theorem ld_get {agg : Bool} {n id off : Nat} : ld H agg n id off = ldO (H.get id) agg n off := by unfold ld ldO; cases H.get id <;> rfl
@[go_sem] theorem ldO_f {l : List AV} {sz t frz n off : Nat} {own : Bool} : ldO (.mem l sz t own frz) false n off = l[off]? := rfl
@[go_sem] theorem ldO_t {l : List AV} {sz t frz n off : Nat} {own : Bool} : ldO (.mem l sz t own frz) true n off = if off + n ≤ l.length then some (.agg ((l.drop off).take n)) else none := rfl
def stoO (H : Mem) (id : Nat) (o : AO) (off : Nat) (xs : List AV) : Option Mem := match o with
  | .mem l sz t true frz => if frz ≤ off ∧ off + xs.length ≤ l.length ∧ xs.all AV.one then some (H.put id (.mem (splice l xs off) sz t true frz)) else none
  | _ => none
theorem sto_get {id off : Nat} {xs : List AV} : sto H id off xs = stoO H id (H.get id) off xs := by
  unfold sto stoO
  cases H.get id with
  | mem l sz t own frz => cases own <;> rfl
  | _ => rfl
@[go_sem] theorem stoO_mem {id off sz t frz : Nat} {l xs : List AV} : stoO H id (.mem l sz t true frz) off xs = if frz ≤ off ∧ off + xs.length ≤ l.length then (if xs.all AV.one = true then some (H.put id (.mem (splice l xs off) sz t true frz)) else none) else none := by
  show (if frz ≤ off ∧ off + xs.length ≤ l.length ∧ xs.all AV.one = true then _ else none) = _
  by_cases h1 : frz ≤ off ∧ off + xs.length ≤ l.length
  · by_cases h2 : xs.all AV.one = true
    · rw [if_pos ⟨h1.1, h1.2, h2⟩, if_pos h1, if_pos h2]
    · rw [if_neg (fun h => h2 h.2.2), if_pos h1, if_neg h2]
  · rw [if_neg (fun h => h1 ⟨h.1, h.2.1⟩), if_neg h1]
/-- A store: where, into what. -/
def stoM (H : Mem) (id : Nat) (o : AO) (off : Nat) (xs : List AV) : Option (AV × Mem) := (stoO H id o off xs).map fun H' => (undefA, H')
@[go_sem] theorem stoS_q {n id off : Nat} {v : AV} : stoS H n (.p (some (id, off))) v = if v.cells.length = n then stoM H id (H.get id) off v.cells else none := by
  show (if v.cells.length = n then (sto H id off v.cells).map fun H' => (undefA, H') else none) = _
  rw [sto_get]; rfl
@[go_sem] theorem stoM_mem {id off sz t frz : Nat} {l xs : List AV} : stoM H id (.mem l sz t true frz) off xs = if frz ≤ off ∧ off + xs.length ≤ l.length then (if xs.all AV.one = true then some (undefA, H.put id (.mem (splice l xs off) sz t true frz)) else none) else none := by
  unfold stoM
  rw [stoO_mem]
  split
  · split <;> rfl
  · rfl
@[go_sem] theorem splice_def {l xs : List AV} {off : Nat} : splice l xs off = l.take off ++ (xs ++ l.drop (off + xs.length)) := by unfold splice; rw [List.append_assoc]
@[go_sem] theorem fillA_nil {cells : List AV} : fillA cells [] = some cells := rfl
@[go_sem] theorem fillA_cons {cells : List AV} {off n : Nat} {v : AV} {r : List (Nat × Nat × AV)} : fillA cells ((off, n, v) :: r) = if v.cells.length = n ∧ off + n ≤ cells.length then fillA (splice cells v.cells off) r else none := rfl
@[go_sem] theorem repeatL_z {z : List AV} : repeatL z 0 = [] := rfl
@[go_sem] theorem repeatL_s {z : List AV} {n : Nat} : repeatL z (n + 1) = z ++ repeatL z n := rfl
attribute [go_sem] true_and and_true and_self List.append_nil
attribute [go_sem] List.cons_append List.nil_append List.all_cons List.all_nil Bool.and_true Bool.true_and
theorem nx_push {o : AO} : (H.push o).next = H.next + 1 := _root_.id rfl
theorem nx_put {i : Nat} {o : AO} : (H.put i o).next = H.next := _root_.id rfl
theorem nx_mark {l : List Nat} : (H.mark l).next = H.next := _root_.id rfl
@[go_sem] theorem get_push_eq {o : AO} {j : Nat} (h : j = H.next) : (H.push o).get j = o := by rw [h]; exact Mem.get_push_same _ _
def tup3 (a b c : Option AV) : Option AV := match a, b, c with
  | some x, some y, some z => some (.tup [x, y, z])
  | _, _, _ => none
@[go_sem] theorem tup3_some {x y z : AV} : tup3 (some x) (some y) (some z) = some (.tup [x, y, z]) := rfl
@[go_sem] theorem res3c {p q r : Pth} {a b c : Bool} {i j k : Nat} : resA env H [.cell p a i, .cell q b j, .cell r c k] = tup3 (loadS H a i (env.get p)) (loadS H b j (env.get q)) (loadS H c k (env.get r)) := by
  have e : ∀ (p : Pth) (a : Bool) (i : Nat), resA1 env H (.cell p a i) = loadS H a i (env.get p) := fun p a i => rfl
  unfold resA
  simp only [mapO, e]
  cases loadS H a i (env.get p) <;> cases loadS H b j (env.get q) <;> cases loadS H c k (env.get r) <;> rfl
@[go_sem] theorem res1c {p : Pth} {a : Bool} {i : Nat} : resA env H [.cell p a i] = loadS H a i (env.get p) := by
  have e : resA1 env H (.cell p a i) = loadS H a i (env.get p) := rfl
  unfold resA
  simp only [mapO, e]
  cases loadS H a i (env.get p) <;> rfl
/-! ### Memory that grows -/
/-- No object lies at an identifier that is still to come. -/
def Wf (H : Mem) : Prop := ∀ id, H.get id ≠ .dead → id < H.next
/-- All below an identifier lies as it lay. -/
structure Ext (n : Nat) (H H' : Mem) : Prop where
  next : H.next ≤ H'.next
  marks : H'.marks = H.marks
  get : ∀ id, id < n → H'.get id = H.get id
  wf : Wf H'
theorem Ext.refl {n : Nat} (w : Wf H) : Ext n H H := ⟨Nat.le_refl _, rfl, fun _ _ => rfl, w⟩
theorem Ext.trans {n m : Nat} {a b c : Mem} (h : Ext n a b) (k : Ext m b c) (hm : n ≤ m) : Ext n a c := ⟨Nat.le_trans h.next k.next, k.marks.trans h.marks, fun id hd => by rw [k.get id (by omega), h.get id hd], k.wf⟩
theorem Ext.low {n m : Nat} {a b : Mem} (h : Ext n a b) (hm : m ≤ n) : Ext m a b := ⟨h.next, h.marks, fun id hd => h.get id (by omega), h.wf⟩
theorem Wf.lt (w : Wf H) {id : Nat} {o : AO} (h : H.get id = o) (ho : o ≠ .dead) : id < H.next := w id (by rw [h]; exact ho)
theorem Wf.push (w : Wf H) (o : AO) : Wf (H.push o) := fun id hd => by
  rw [Mem.get_push] at hd
  by_cases e : id = H.next
  · rw [e]; simp
  · rw [if_neg e] at hd; have := w id hd; simp; omega
theorem Wf.put (w : Wf H) {id : Nat} (h : id < H.next) (o : AO) : Wf (H.put id o) := fun j hd => by
  rw [Mem.get_put] at hd
  by_cases e : j = id
  · rw [e]; exact h
  · rw [if_neg e] at hd; exact w j hd
theorem Wf.kill (w : Wf H) (id : Nat) : Wf (H.put id .dead) := fun j hd => by
  rw [Mem.get_put] at hd
  by_cases e : j = id
  · rw [if_pos e] at hd; exact absurd rfl hd
  · rw [if_neg e] at hd; exact w j hd
theorem Wf.mark (w : Wf H) (l : List Nat) : Wf (H.mark l) := w
theorem Wf.far (w : Wf H) {id : Nat} (h : H.next ≤ id) : H.get id = .dead := by
  cases e : H.get id with
  | dead => rfl
  | _ => have := w id (by rw [e]; simp); omega
theorem Ext.push {n : Nat} {H0 : Mem} (h : Ext n H0 H) (o : AO) (hn : n ≤ H.next) : Ext n H0 (H.push o) := ⟨by have := h.next; simp; omega, h.marks, fun id hd => by rw [Mem.get_push, if_neg (by omega)]; exact h.get id hd, h.wf.push o⟩
/-- An object above is turned. -/
theorem Ext.put {n : Nat} {H0 : Mem} (h : Ext n H0 H) {id : Nat} (hn : n ≤ id) (hl : id < H.next) (o : AO) : Ext n H0 (H.put id o) :=
  ⟨h.next, h.marks, fun j hj => by rw [Mem.get_put, if_neg (by omega)]; exact h.get j hj, h.wf.put hl o⟩
theorem Ext.of {n : Nat} {H0 : Mem} (h : Ext n H0 H) {id : Nat} {o : AO} (e : H0.get id = o) (hd : id < n) : H.get id = o := by rw [h.get id hd, e]
theorem Ext.mark {n : Nat} {H0 : Mem} (h : Ext n (H0.mark []) H) : Ext n H0 (H.mark H0.marks) := ⟨h.next, rfl, h.get, h.wf⟩
theorem Ext.remark {n : Nat} {H0 : Mem} (h : Ext n H0 H) : Ext n H0 (H.mark H0.marks) := ⟨h.next, rfl, h.get, h.wf⟩
theorem Ext.mark0 {n : Nat} (w : Wf H) : Ext n (H.mark []) (H.mark []) := Ext.refl (H := H.mark []) w
/-! ### What lies where, as a function -/
abbrev Gt := Nat → AO
def leG (G G' : Gt) : Prop := ∀ id, G id ≠ .dead → G' id = G id
theorem leG.refl (G : Gt) : leG G G := fun _ _ => rfl
theorem leG.trans {a b c : Gt} (h : leG a b) (k : leG b c) : leG a c := fun id hd => by rw [k id (by rw [h id hd]; exact hd), h id hd]
/-- What has been made since. -/
def sn (n : Nat) (H : Mem) : Gt := fun id => if id < n then .dead else H.get id
theorem sn_le {n : Nat} : leG (sn n H) H.get := fun id hd => by
  unfold sn at hd ⊢
  by_cases e : id < n
  · rw [if_pos e] at hd; exact absurd rfl hd
  · rw [if_neg e]
theorem sn_up {n m : Nat} {H' : Mem} (h : Ext m H H') (w : Wf H) (hm : H.next ≤ m) : leG (sn n H) (sn n H') := fun id hd => by
  unfold sn at hd ⊢
  by_cases e : id < n
  · rw [if_pos e] at hd; exact absurd rfl hd
  · rw [if_neg e] at hd ⊢; rw [if_neg e]; exact h.get id (by have := w id hd; omega)
theorem le_up {m : Nat} {H' : Mem} (h : Ext m H H') (w : Wf H) (hm : H.next ≤ m) : leG H.get H'.get := fun id hd => h.get id (by have := w id hd; omega)
theorem sn_down {n m : Nat} (h : n ≤ m) : leG (sn m H) (sn n H) := fun id hd => by
  unfold sn at hd ⊢
  by_cases e : id < m
  · rw [if_pos e] at hd; exact absurd rfl hd
  · rw [if_neg e, if_neg (by omega)]
theorem sn_put {n id : Nat} {o : AO} (h : id < n) : sn n (H.put id o) = sn n H := by
  funext j
  unfold sn
  by_cases e : j < n
  · rw [if_pos e, if_pos e]
  · rw [if_neg e, if_neg e, Mem.get_put, if_neg (by omega)]
theorem sn_mark {n : Nat} {l : List Nat} : sn n (H.mark l) = sn n H := rfl
theorem sn_get {n id : Nat} {o : AO} (h : n ≤ id) (e : H.get id = o) : sn n H id = o := by unfold sn; rw [if_neg (by omega), e]
def hid (G : Gt) (id : Nat) : Gt := fun j => if j = id then .dead else G j
theorem hid_le {G : Gt} {id : Nat} : leG (hid G id) G := fun j hd => by
  unfold hid at hd ⊢
  by_cases e : j = id
  · rw [if_pos e] at hd; exact absurd rfl hd
  · rw [if_neg e]
theorem le_hid {G G' : Gt} {id : Nat} (h : leG G G') (hd : G id = .dead) : leG G (hid G' id) := fun j hj => by
  unfold hid
  rw [if_neg (fun e => hj (by rw [e]; exact hd))]; exact h j hj
/-! ### Rows that are read -/
section rows
variable {α : Type} {sz t : Nat} {Rr : Gt → List AV → α → Prop} {G G' : Gt} {v : AV} {xs ys : List α}
/-- What is told of elements holds of more memory. -/
def Mono (Rr : Gt → List AV → α → Prop) : Prop := ∀ (G G' : Gt) (c : List AV) (x : α), leG G G' → Rr G c x → Rr G' c x
/-- The elements in cells, from a place on. -/
structure Els (sz : Nat) (Rr : Gt → List AV → α → Prop) (G : Gt) (cells : List AV) (off : Nat) (xs : List α) : Prop where
  le : off + xs.length * sz ≤ cells.length
  el : ∀ (j : Nat) (x : α), xs[j]? = some x → Rr G ((cells.drop (off + j * sz)).take sz) x
def SlR (sz : Nat) (Rr : Gt → List AV → α → Prop) (G : Gt) (v : AV) (xs : List α) : Prop :=
  (xs = [] ∧ (v = .nsl ∨ v = .esl)) ∨ ∃ id off cap cells t own frz, v = .sl id off xs.length cap ∧ G id = .mem cells sz t own frz ∧ (∀ c, cap = some c → xs.length ≤ c) ∧ Els sz Rr G cells off xs
theorem Els.mono {cells : List AV} {off : Nat} (hm : Mono Rr) (h : Els sz Rr G cells off xs) (k : leG G G') : Els sz Rr G' cells off xs := ⟨h.le, fun j x hx => hm _ _ _ _ k (h.el j x hx)⟩
theorem leG.of (k : leG G G') {id : Nat} {o : AO} (e : G id = o) (ho : o ≠ .dead) : G' id = o := by rw [k id (by rw [e]; exact ho), e]
theorem SlR.mono (hm : Mono Rr) (h : SlR sz Rr G v xs) (k : leG G G') : SlR sz Rr G' v xs := by
  rcases h with h | ⟨id, off, cap, cells, t, own, frz, h1, h2, hc, h3⟩
  · exact .inl h
  · exact .inr ⟨id, off, cap, cells, t, own, frz, h1, k.of h2 (by simp), hc, h3.mono hm k⟩
theorem SlR.len (h : SlR sz Rr G v xs) : lenVS v = some (.i .i64 xs.length) := by
  rcases h with ⟨rfl, rfl | rfl⟩ | ⟨id, off, cap, cells, t, own, frz, rfl, _⟩ <;> rfl
theorem SlR.one (h : SlR sz Rr G v xs) : v.one = true := by
  rcases h with ⟨rfl, rfl | rfl⟩ | ⟨id, off, cap, cells, t, own, frz, rfl, _⟩ <;> rfl
theorem SlR.nil : SlR sz Rr G .nsl ([] : List α) := .inl ⟨rfl, .inl rfl⟩
/-- An element: where it lies, what lies there. -/
theorem SlR.at_ (h : SlR sz Rr G v xs) {j : Nat} {x : α} (hx : xs[j]? = some x) : ∃ id p c, ixVS sz v (.i .i64 (j : Int)) = some (.p (some (id, p))) ∧ Rr G c x ∧ (∀ k, k < sz → ldO (G id) false 1 (p + k) = c[k]?) ∧ ldO (G id) true sz p = some (.agg c) ∧ c.length = sz ∧ G id ≠ .dead := by
  rcases h with ⟨rfl, _⟩ | ⟨id, off, cap, cells, t, own, frz, rfl, h2, _, h3⟩
  · simp at hx
  · have hj : j < xs.length := (List.getElem?_eq_some_iff.1 hx).1
    have hle : off + j * sz + sz ≤ cells.length := by
      have h4 : (j + 1) * sz ≤ xs.length * sz := Nat.mul_le_mul_right _ hj
      have := h3.le
      rw [Nat.add_mul] at h4; omega
    refine ⟨id, off + j * sz, (cells.drop (off + j * sz)).take sz, ?_, h3.el j x hx, fun k hk => ?_, ?_, ?_, by rw [h2]; simp⟩
    · rw [ixVS_sl, if_pos (by omega)]; simp
    · rw [h2, ldO_f, List.getElem?_take_of_lt hk, List.getElem?_drop]
    · rw [h2, ldO_t, if_pos hle]
    · simp; omega
/-- A slice of it. -/
theorem SlR.slice (h : SlR sz Rr H.get v xs) {lo hi : Option AV} {l k : Nat} (hl : bnd lo 0 = some l) (hk : bnd hi xs.length = some k) (h1 : l ≤ k) (h2 : k ≤ xs.length) : ∃ u, slVA H sz v lo hi none = some u ∧ SlR sz Rr H.get u ((xs.drop l).take (k - l)) := by
  rcases h with ⟨rfl, h⟩ | ⟨id, off, cap, cells, t, own, frz, rfl, h4, hcap, h3⟩
  · have hk0 : k = 0 := by simpa using h2
    have hl0 : l = 0 := by omega
    subst hk0; subst hl0
    simp only [List.length_nil] at hk
    rcases h with rfl | rfl
    · exact ⟨.nsl, by simp only [slVA, hk, hl], .inl ⟨by simp, .inl rfl⟩⟩
    · exact ⟨.esl, by simp only [slVA, hk, hl], .inl ⟨by simp, .inr rfl⟩⟩
  · have els : ∀ o' : Nat, (k = l → off ≤ o' ∧ o' ≤ off + xs.length * sz) → (l < k → o' = off + l * sz) → Els sz Rr H.get cells o' ((xs.drop l).take (k - l)) := fun o' e1 e2 => by
      have hlen : ((xs.drop l).take (k - l)).length = k - l := by simp; omega
      have hle := h3.le
      refine ⟨?_, fun j x hx => ?_⟩
      · rw [hlen]
        rcases Nat.lt_or_ge l k with hlt | hge
        · rw [e2 hlt]
          have h5 : l * sz + (k - l) * sz ≤ xs.length * sz := by rw [← Nat.add_mul]; exact Nat.mul_le_mul_right _ (by omega)
          omega
        · have := e1 (by omega)
          rw [show k - l = 0 by omega]; omega
      · have hj : j < k - l := by have := (List.getElem?_eq_some_iff.1 hx).1; omega
        rw [e2 (by omega)]
        rw [List.getElem?_take_of_lt hj, List.getElem?_drop] at hx
        have := h3.el (l + j) x hx
        rw [show off + l * sz + j * sz = off + (l + j) * sz by rw [Nat.add_mul]; omega]; exact this
    have hlen : ((xs.drop l).take (k - l)).length = k - l := by simp; omega
    have hmul : l * sz ≤ xs.length * sz := Nat.mul_le_mul_right _ (by omega)
    cases cap with
    | none =>
      by_cases hlt : l < xs.length
      · refine ⟨.sl id (off + l * sz) (k - l) none, ?_, .inr ⟨id, off + l * sz, none, cells, t, own, frz, by rw [hlen], h4, (fun _ e => by cases e), els _ (fun _ => by omega) (fun _ => rfl)⟩⟩
        simp only [slVA, h4, hk, hl, if_true, if_pos h1, if_pos h2, if_pos hlt]
      · refine ⟨.esl, ?_, .inl ⟨?_, .inr rfl⟩⟩
        · simp only [slVA, h4, hk, hl, if_true, if_pos h1, if_pos h2, if_neg hlt]
        · apply List.eq_nil_of_length_eq_zero; omega
    | some c =>
      have hc : k ≤ c := Nat.le_trans h2 (hcap c rfl)
      refine ⟨.sl id (if c = l then off else off + l * sz) (k - l) (some (c - l)), ?_, .inr ⟨id, _, some (c - l), cells, t, own, frz, by rw [hlen], h4, (fun c' e => by injection e with e; omega), els _ (fun _ => ?_) (fun hlt => ?_)⟩⟩
      · simp only [slVA, h4, hk, hl, if_true, if_pos h1, if_pos hc]
      · split <;> omega
      · rw [if_neg (by omega)]
/-- What is copied out of it. -/
theorem SlR.src (h : SlR sz Rr H.get v xs) : ∃ cs, Fw.src H sz v = some (cs, xs.length) ∧ cs.length = xs.length * sz ∧ Els sz Rr H.get cs 0 xs := by
  rcases h with ⟨rfl, h⟩ | ⟨id, off, cap, cells, t, own, frz, rfl, h4, _, h3⟩
  · refine ⟨[], ?_, by simp, ⟨by simp, fun j x hx => by simp at hx⟩⟩
    rcases h with rfl | rfl <;> rfl
  · have hle := h3.le
    refine ⟨(cells.drop off).take (xs.length * sz), by simp only [Fw.src, h4]; rw [if_pos ⟨trivial, hle⟩], by simp; omega, ⟨by simp; omega, fun j x hx => ?_⟩⟩
    have hj : j < xs.length := (List.getElem?_eq_some_iff.1 hx).1
    have h5 : (j + 1) * sz ≤ xs.length * sz := Nat.mul_le_mul_right _ hj
    rw [Nat.add_mul] at h5
    have := h3.el j x hx
    rw [Nat.zero_add, List.drop_take, List.drop_drop, List.take_take, Nat.min_eq_left (by omega)]
    exact this
/-! ### Rows that grow -/
/-- A row of our own, made since, as are its elements. -/
def SlO (sz t : Nat) (Rr : Gt → List AV → α → Prop) (n : Nat) (H : Mem) (v : AV) (xs : List α) : Prop :=
  (xs = [] ∧ v = .nsl) ∨ ∃ id cells, v = .sl id 0 xs.length none ∧ H.get id = .mem cells sz t true 0 ∧ cells.length = xs.length * sz ∧ n ≤ id ∧ Els sz Rr (hid (sn n H) id) cells 0 xs
theorem SlO.nil {n : Nat} : SlO sz t Rr n H .nsl ([] : List α) := .inl ⟨rfl, rfl⟩
theorem SlO.grow {n m : Nat} {H' : Mem} (hm : Mono Rr) (h : SlO sz t Rr n H v xs) (w : Wf H) (k : Ext m H H') (hk : H.next ≤ m) : SlO sz t Rr n H' v xs := by
  rcases h with h | ⟨id, cells, e1, e2, e3, e4, e5⟩
  · exact .inl h
  · refine .inr ⟨id, cells, e1, k.of e2 (by have := w.lt e2 (by simp); omega), e3, e4, e5.mono hm ?_⟩
    exact le_hid (hid_le.trans (sn_up k w hk)) (by simp [hid])
/-- An object below is turned. -/
theorem SlO.put {n id : Nat} {o : AO} (h : SlO sz t Rr n H v xs) (hid' : id < n) : SlO sz t Rr n (H.put id o) v xs := by
  rcases h with h | ⟨j, cells, e1, e2, e3, e4, e5⟩
  · exact .inl h
  · exact .inr ⟨j, cells, e1, by rw [Mem.get_put, if_neg (by omega)]; exact e2, e3, e4, by rw [sn_put hid']; exact e5⟩
theorem SlO.mark {n : Nat} {l : List Nat} (h : SlO sz t Rr n H v xs) : SlO sz t Rr n (H.mark l) v xs := h
theorem SlO.down {n m : Nat} (hm : Mono Rr) (h : SlO sz t Rr m H v xs) (k : n ≤ m) : SlO sz t Rr n H v xs := by
  rcases h with h | ⟨j, cells, e1, e2, e3, e4, e5⟩
  · exact .inl h
  · exact .inr ⟨j, cells, e1, e2, e3, by omega, e5.mono hm (le_hid (hid_le.trans (sn_down k)) (by simp [hid]))⟩
/-- It is read in what has been made since. -/
theorem SlO.read {n : Nat} (hm : Mono Rr) (h : SlO sz t Rr n H v xs) : SlR sz Rr (sn n H) v xs := by
  rcases h with ⟨h1, h2⟩ | ⟨id, cells, e1, e2, e3, e4, e5⟩
  · exact .inl ⟨h1, .inl h2⟩
  · exact .inr ⟨id, 0, none, cells, t, true, 0, e1, sn_get e4 e2, (fun _ e => by cases e), e5.mono hm hid_le⟩
theorem SlO.len {n : Nat} (h : SlO sz t Rr n H v xs) : lenVS v = some (.i .i64 xs.length) := by
  rcases h with ⟨rfl, rfl⟩ | ⟨id, cells, rfl, _⟩ <;> rfl
theorem SlO.one {n : Nat} (h : SlO sz t Rr n H v xs) : v.one = true := by
  rcases h with ⟨rfl, rfl⟩ | ⟨id, cells, rfl, _⟩ <;> rfl
theorem Els.append {cells cs : List AV} (h : Els sz Rr G cells 0 xs) (hl : cells.length = xs.length * sz) (k : Els sz Rr G cs 0 ys) (kl : cs.length = ys.length * sz) : Els sz Rr G (cells ++ cs) 0 (xs ++ ys) := by
  refine ⟨by simp [hl, kl, Nat.add_mul], fun j x hx => ?_⟩
  rcases Nat.lt_or_ge j xs.length with hj | hj
  · rw [List.getElem?_append_left hj] at hx
    have h5 : (j + 1) * sz ≤ xs.length * sz := Nat.mul_le_mul_right _ hj
    rw [Nat.add_mul] at h5
    have := h.el j x hx
    rw [List.drop_append_of_le_length (by omega), List.take_append_of_le_length (by simp; omega)]
    exact this
  · rw [List.getElem?_append_right hj] at hx
    have := k.el (j - xs.length) x hx
    rw [Nat.zero_add] at this ⊢
    have e : j * sz = cells.length + (j - xs.length) * sz := by rw [hl, ← Nat.add_mul]; congr 1; omega
    rw [e, ← List.drop_drop, List.drop_left]
    exact this
/-- More elements at its end. -/
theorem SlO.app {n : Nat} {H1 : Mem} (hm : Mono Rr) (h : SlO sz t Rr n H v xs) (w : Wf H) (hn : n ≤ H.next) (k : Ext H.next H H1) {u : AV} {cs : List AV} (hs : Fw.src H1 sz u = some (cs, ys.length)) (hcl : cs.length = ys.length * sz) (hone : cs.all AV.one = true) (hE : Els sz Rr (sn H.next H1) cs 0 ys)
    (hsz : 0 < sz) {z : List AV} (hz : z.length = sz) {bytes : Nat} (hb : (xs.length + ys.length) * bytes ≤ 140737488355328) (hb2 : xs.length + ys.length ≤ 140737488355328) :
    ∃ v' H2, appA H1 sz bytes t z v u = some (v', H2) ∧ SlO sz t Rr n H2 v' (xs ++ ys) ∧ Ext n H H2 ∧ H1.next ≤ H2.next := by
  have hc : ¬ (cs.all AV.one = false ∨ sz = 0 ∨ z.length ≠ sz) := fun hh => by
    rcases hh with hh | hh | hh
    · rw [hone] at hh; cases hh
    · omega
    · exact hh hz
  have w1 := k.wf
  have hnx := k.next
  rcases h with ⟨rfl, rfl⟩ | ⟨id, cells, rfl, e2, e3, e4, e5⟩
  · -- nothing yet
    by_cases hn0 : ys.length = 0
    · have hy : ys = [] := List.eq_nil_of_length_eq_zero hn0
      refine ⟨.nsl, H1, ?_, .inl ⟨by simp [hy], rfl⟩, k.low hn, Nat.le_refl _⟩
      simp only [appA, hs, if_neg hc, hn0, if_true]
    · refine ⟨.sl H1.next 0 ys.length none, H1.push (.mem cs sz t true 0), ?_, .inr ⟨H1.next, cs, by simp, by simp, by simpa using hcl, by omega, ?_⟩, (k.low hn).push _ (by omega), by simp⟩
      · simp only [appA, hs, if_neg hc, if_neg hn0]
        rw [if_pos ⟨by simpa using hb, by simpa using hb2⟩]
      · refine hE.mono hm (le_hid ((sn_down hn).trans (sn_up ((Ext.refl w1 (n := H1.next)).push _ (Nat.le_refl _)) w1 (Nat.le_refl _))) ?_)
        unfold sn
        split
        · rfl
        · exact w1.far (Nat.le_refl _)
  · have hidlt : id < H.next := w.lt e2 (by simp)
    have g1 : H1.get id = .mem cells sz t true 0 := k.of e2 hidlt
    by_cases hn0 : ys.length = 0
    · have hy : ys = [] := List.eq_nil_of_length_eq_zero hn0
      refine ⟨.sl id 0 xs.length none, H1, ?_, ?_, k.low hn, Nat.le_refl _⟩
      · simp only [appA, hs, if_neg hc, hn0, if_true]
      · rw [hy, List.append_nil]
        exact SlO.grow hm (.inr ⟨id, cells, rfl, e2, e3, e4, e5⟩) w k (Nat.le_refl _)
    · have kput : Ext n H (H1.put id .dead) := ⟨hnx, k.marks, fun j hj => by rw [Mem.get_put, if_neg (by omega)]; exact k.get j (by omega), w1.kill id⟩
      refine ⟨.sl H1.next 0 (xs.length + ys.length) none, (H1.put id .dead).push (.mem (cells ++ cs) sz t true 0), ?_, .inr ⟨H1.next, cells ++ cs, by simp, ?_, by simp [hcl, e3, Nat.add_mul], by omega, ?_⟩, kput.push _ (by rw [Mem.next_put]; omega), by simp⟩
      · simp only [appA, hs, if_neg hc, if_neg hn0]
        rw [if_pos ⟨hb, hb2⟩]
        simp only [g1]
        rw [if_pos ⟨trivial, by omega⟩, if_pos ⟨trivial, by omega, trivial, trivial⟩]
        simp only [List.drop_zero, Nat.zero_sub, ← e3, List.take_length]
      · have : ((H1.put id .dead).push (.mem (cells ++ cs) sz t true 0)).get (H1.put id .dead).next = .mem (cells ++ cs) sz t true 0 := Mem.get_push_same _ _
        exact this
      · have up : ∀ {G : Gt}, leG G (sn n H1) → (G id = .dead) → leG G (hid (sn n ((H1.put id .dead).push (.mem (cells ++ cs) sz t true 0))) H1.next) := fun {G} hle hd j hj => by
          have hji : j ≠ id := fun e => hj (by rw [e]; exact hd)
          have e1 := hle j hj
          unfold sn at e1
          by_cases hjn : j < n
          · rw [if_pos hjn] at e1; exact absurd e1.symm hj
          · rw [if_neg hjn] at e1
            have hlt : j < H1.next := w1 j (by rw [e1]; exact hj)
            unfold hid sn
            rw [if_neg (by omega), if_neg hjn, Mem.get_push, if_neg (by rw [Mem.next_put]; omega), Mem.get_put, if_neg hji, e1]
        refine Els.append (e5.mono hm (up (hid_le.trans (sn_up k w (Nat.le_refl _))) (by simp [hid]))) e3 (hE.mono hm (up (sn_down hn) (by unfold sn; rw [if_pos hidlt]))) hcl
/-- One element more, out of a row of one that has just been built. -/
theorem SlO.app1 {n : Nat} {H' : Mem} (hm : Mono Rr) (h : SlO sz t Rr n H v xs) (w : Wf H) (hn : n ≤ H.next) (k : Ext H.next H H') {c : List AV} {x : α} (hcl : c.length = sz) (hone : c.all AV.one = true) (hR : Rr (sn H.next H') c x)
    (hsz : 0 < sz) {z : List AV} (hz : z.length = sz) {bytes t2 : Nat} (hb : (xs.length + 1) * bytes ≤ 140737488355328) (hb2 : xs.length + 1 ≤ 140737488355328) :
    ∃ v' H2, appA (H'.push (.mem c sz t2 true 0)) sz bytes t z v (.sl H'.next 0 1 (some 1)) = some (v', H2) ∧ SlO sz t Rr n H2 v' (xs ++ [x]) ∧ Ext n H H2 ∧ H'.next ≤ H2.next := by
  have key : ∃ v' H2, appA (H'.push (.mem c sz t2 true 0)) sz bytes t z v (.sl H'.next 0 1 (some 1)) = some (v', H2) ∧ SlO sz t Rr n H2 v' (xs ++ [x]) ∧ Ext n H H2 ∧ (H'.push (.mem c sz t2 true 0)).next ≤ H2.next := ?_
  · obtain ⟨v', H2, a, b, d, e⟩ := key
    exact ⟨v', H2, a, b, d, by simp at e; omega⟩
  refine SlO.app (cs := c) (ys := [x]) hm h w hn (k.push _ k.next) ?_ (by simp [hcl]) hone ⟨by simp [hcl], fun j y hy => ?_⟩ hsz hz hb hb2
  · simp only [Fw.src, Mem.get_push_same]
    rw [if_pos ⟨trivial, by simp [hcl]⟩]
    simp [← hcl]
  · cases j with
    | zero =>
      simp at hy; subst hy
      simp only [Nat.zero_mul, Nat.add_zero, List.drop_zero]
      rw [List.take_of_length_le (by omega)]
      exact hm _ _ _ _ (sn_up ((Ext.refl k.wf (n := H'.next)).push _ (Nat.le_refl _)) k.wf (Nat.le_refl _)) hR
    | succ j => simp at hy
end rows
end Sys
end Go.Fw
end
section
/- Symbolic evaluation, part E: loops over functions and their rounds. -/
namespace Go.Fw
open Go.RowKit
namespace Sys
variable {S : Sys} {rd : Bool} {env : Tr} {H : Mem} {Q : Ex → Tr → Mem → Prop} {K : AV → Mem → Prop}
/-- How a loop over a function is left. -/
def rfEnd (l : Nat) (env : Tr) (Q : Ex → Tr → Mem → Prop) (H2 : Mem) : Prop := ∃ st pend t ps a b, H2.get l = .loop st pend t ps a b ∧ st ≠ .busy ∧ Q (pend.getD .nm) env (H2.put l .dead)
theorem w_rfun {g : Opd} {ps : List Pth} {asg body : AC} {f : Nat} {first cap : List AV} (hg : opd env g = .fn f first cap) (h : @R S (.b f) (first ++ [.yld (H.next + 1)] ++ cap) (((H.push .defs).mark (H.next :: H.marks)).push (.loop .ready none env ps asg body)) ⟨fun _ H2 => rfEnd (H.next + 1) env Q H2⟩) : @W S false (.rfun g ps asg body) env H ⟨Q⟩ := by
  obtain ⟨n, v, H2, e, st, pend, t, ps2, a, b, e1, e2, q⟩ := h
  refine ⟨n, pend.getD .nm, env, H2.put (H.next + 1) .dead, ?_, q⟩
  simp only [evCode, cond_false, frcM_eq, hg, frcVs_eq]
  have hl : ((H.push .defs).mark (H.next :: H.marks)).next = H.next + 1 := rfl
  rw [hl, e]
  simp only [e1]
  cases st with
  | busy => exact absurd rfl e2
  | _ => cases pend <;> rfl
def emO (o : AO) (l : Nat) (r : List Nat) (H : Mem) : Option Mem := match o with
  | .defs => endMarks r (H.put l .dead)
  | _ => none
@[go_sem] theorem endM_cons {l : Nat} {r : List Nat} : endMarks (l :: r) H = emO (H.get l) l r H := by
  show (match H.get l with | .defs => frcM (H.put l .dead) fun H => endMarks r H | _ => none) = _
  cases H.get l <;> simp [emO]
@[go_sem] theorem emO_defs {l : Nat} {r : List Nat} : emO .defs l r H = endMarks r (H.put l .dead) := rfl
@[go_sem] theorem pend_none : (none : Option Ex).getD .nm = .nm := rfl
@[go_sem] theorem pend_some {e : Ex} : (some e).getD .nm = e := rfl
def setE : List Pth → List AV → Tr → Tr
  | p :: ps, v :: vs, env => setE ps vs (env.set p v)
  | _, _, env => env
theorem setAll_setE {β : Type} : ∀ (ps : List Pth) (vs : List AV) (env : Tr) (K : Tr → β), setAll ps vs env K = K (setE ps vs env)
  | [], _, _, _ => by simp [setAll, setE]
  | _ :: _, [], _, _ => by simp [setAll, setE]
  | p :: ps, v :: vs, env, K => by simp only [setAll, Tr.setK_eq, setE]; exact setAll_setE ps vs _ K
/-- How a round is left. -/
def rdEnd (l : Nat) (ms : List Nat) (K : AV → Mem → Prop) : Ex → Tr → Mem → Prop := fun e _ H3 => ∃ st p3 t3 ps3 a3 b3, H3.get l = .loop st p3 t3 ps3 a3 b3 ∧ match e with
  | .nm => K (.b true) ((H3.put l (.loop .ready none t3 ps3 a3 b3)).mark ms)
  | e => K (.b false) ((H3.put l (.loop .done (some e) t3 ps3 a3 b3)).mark ms)
/-- Behind a round's assignment. -/
def asgEnd (S : Sys) (l : Nat) (pend : Option Ex) (tmps : Tr) (ps : List Pth) (asg body : AC) (ms : List Nat) (K : AV → Mem → Prop) : Ex → Tr → Mem → Prop
  | .nm, env1, H1 => H1.get l = .loop .ready pend tmps ps asg body ∧ @W S true body env1 (H1.put l (.loop .busy pend tmps ps asg body)) ⟨rdEnd l ms K⟩
  | _, _, _ => False
@[go_sem] theorem asgEnd_nm {l : Nat} {pend : Option Ex} {tmps : Tr} {ps : List Pth} {asg body : AC} {ms : List Nat} : S.asgEnd l pend tmps ps asg body ms K .nm env H ↔ H.get l = .loop .ready pend tmps ps asg body ∧ @W S true body env (H.put l (.loop .busy pend tmps ps asg body)) ⟨rdEnd l ms K⟩ := Iff.rfl
@[go_sem] theorem setE1 {p : Pth} {v : AV} : setE [p] [v] env = env.set p v := rfl
@[go_sem] theorem setE2 {p q : Pth} {v u : AV} : setE [p, q] [v, u] env = (env.set p v).set q u := rfl
theorem r_round {l : Nat} {args : List AV} {pend : Option Ex} {tmps : Tr} {ps : List Pth} {asg body : AC} (hX : S.X (.y l) args H = none) (hl : H.get l = .loop .ready pend tmps ps asg body) (hlen : args.length = ps.length)
    (h : @W S true asg (setE ps args tmps) H ⟨S.asgEnd l pend tmps ps asg body H.marks K⟩) : @R S (.y l) args H ⟨K⟩ := by
  obtain ⟨n0, e0, env1, H1, ea, qa⟩ := h
  cases e0 with
  | ex i => exact qa.elim
  | rt => exact qa.elim
  | nm =>
  obtain ⟨hl1, n1, e, env2, H3, e1, st, p3, t3, ps3, a3, b3, e2, q⟩ := qa
  have hb : Nat.beq args.length ps.length = true := by rw [beqN, hlen]; simp
  have ea2 := code_up (Nat.le_max_left n0 n1) ea
  have e12 := code_up (Nat.le_max_right n0 n1) e1
  generalize max n0 n1 = n at ea2 e12
  have key : ∀ v H', (match e with | .nm => some ((.b true : AV), (H3.put l (.loop .ready none t3 ps3 a3 b3)).mark H.marks) | e => some ((.b false : AV), (H3.put l (.loop .done (some e) t3 ps3 a3 b3)).mark H.marks)) = some (v, H') → S.ev (n + 1) (.y l) args H = some (v, H') := fun v H' hv => by
    simp only [ev, evFn, hX]
    unfold evRound
    simp only [hl, hb]
    rw [setAll_setE]
    have ea' : evCode S.dr true (evFn S.dr S.X S.F n) n asg (setE ps args tmps) H = some (.nm, env1, H1) := ea2
    have e1' : evCode S.dr true (evFn S.dr S.X S.F n) n body env1 (H1.put l (.loop .busy pend tmps ps asg body)) = some (e, env2, H3) := e12
    simp only [ea', hl1, frcM_eq]
    rw [e1']
    simp only [e2]
    exact hv
  cases e with
  | nm => exact ⟨n + 1, _, _, key _ _ rfl, q⟩
  | ex i => exact ⟨n + 1, _, _, key _ _ rfl, q⟩
  | rt => exact ⟨n + 1, _, _, key _ _ rfl, q⟩
end Sys
end Go.Fw
end
section
/- Symbolic evaluation, part F: regions that draw their order, with allocations side by side. -/
namespace Go.Fw
open Go.RowKit
namespace Sys
variable {S : Sys} {rd : Bool} {env : Tr} {H : Mem}
def mt (id : Nat) : Mem := ⟨id, .e, []⟩
@[go_sem] theorem nx_mt {id : Nat} : (mt id).next = id := rfl
def Bg (S : Sys) (before : List (List Nat)) (l : List AOper) (i id : Nat) (nw : List NW) (K : List Nat) (env : Tr) (H : Mem) (Q : Bout → Prop) : Prop := ∃ n out, bgo (S.ev n) before l i id nw K env H = some out ∧ Q out
def B (S : Sys) (before : List (List Nat)) (l : List AOper) (i id : Nat) (nw : List NW) (K : List Nat) (env : Tr) (H : Mem) [Q : Bx (Bout → Prop)] : Prop := S.Bg before l i id nw K env H Q.un
def bad (r : Brec) (Q : Bout → Prop) : Bout → Prop := fun b => Q (b.add r)
def badE (r : Brec) (H : Mem) (K : List Nat) (Q : Bout → Prop) : Bout → Prop := fun b => Q (b.adde r H K)
variable {before : List (List Nat)} {l : List AOper} {i id : Nat} {nw : List NW} {K : List Nat} {Q : Bout → Prop}
@[go_sem] theorem bad_iff {r : Brec} {a : List Brec} {b : List (Mem × List Nat)} {c : List NW} {e : Tr} : bad r Q ⟨a, b, c, e⟩ ↔ Q ⟨r :: a, b, c, e⟩ := Iff.rfl
@[go_sem] theorem badE_iff {r : Brec} {H' : Mem} {K' : List Nat} {a : List Brec} {b : List (Mem × List Nat)} {c : List NW} {e : Tr} : badE r H' K' Q ⟨a, b, c, e⟩ ↔ Q ⟨r :: a, (H', K') :: b, c, e⟩ := Iff.rfl
@[go_sem] theorem bg_nil : @B S before [] i id nw K env H ⟨Q⟩ ↔ Q ⟨[], [], nw, env⟩ := by
  show S.Bg _ _ _ _ _ _ _ _ _ ↔ _
  constructor
  · rintro ⟨n, out, h, q⟩
    simp only [bgo, Option.some.injEq] at h
    subst h; exact q
  · intro q; exact ⟨0, _, rfl, q⟩
theorem bg_new {d : Option Pth} {o : AOp} (h : o.isNew = true) : @B S before (⟨d, o, none⟩ :: l) i id nw K env H ⟨Q⟩ ↔ @o1 S o env (mt id) ⟨fun v H' => @B S before l (i + 1) (id + 1) (nw ++ [(i, id, H'.get id)]) K (putE env d v) H ⟨bad ⟨v, .nw, true, env⟩ Q⟩⟩ := by
  rw [op1_eff (isNew_kd h)]
  show S.Bg _ _ _ _ _ _ _ _ _ ↔ _
  constructor
  · rintro ⟨n, out, hv, q⟩
    simp only [bgo, wantA, h, newAt] at hv
    show @onE (effA env ⟨id, .e, []⟩ o) ⟨_⟩
    cases he : effA env ⟨id, .e, []⟩ o with
    | none => rw [he] at hv; cases hv
    | some r =>
      obtain ⟨v, H'⟩ := r
      rw [he] at hv
      simp only [frcV_eq, putA_eq] at hv
      obtain ⟨b, hb, rfl⟩ := Option.map_eq_some_iff.1 hv
      exact ⟨n, b, hb, q⟩
  · intro hv
    unfold mt at hv
    cases he : effA env ⟨id, .e, []⟩ o with
    | none => rw [he] at hv; exact hv.elim
    | some r =>
      obtain ⟨v, H'⟩ := r
      rw [he] at hv
      obtain ⟨n, b, hb, q⟩ := hv
      refine ⟨n, b.add ⟨v, .nw, true, env⟩, ?_, q⟩
      simp only [bgo, wantA, h, newAt, he, frcV_eq, putA_eq, hb]; rfl
theorem bg_pure {d : Option Pth} {o : AOp} (h : o.isNew = false) (hk : o.kd = .pure) : @B S before (⟨d, o, none⟩ :: l) i id nw K env H ⟨Q⟩ ↔ @o1 S o env (selM (minP (before.getD i []) K) nw H) ⟨fun v _ => @B S before l (i + 1) id nw K (putE env d v) H ⟨bad ⟨v, .fl, true, env⟩ Q⟩⟩ := by
  rw [op1_pure hk]
  show S.Bg _ _ _ _ _ _ _ _ _ ↔ _
  constructor
  · rintro ⟨n, out, hv, q⟩
    simp only [bgo, wantA, h, hk] at hv
    show @onS (pureA env (selM (minP (before.getD i []) K) nw H) o) ⟨_⟩
    cases he : pureA env (selM (minP (before.getD i []) K) nw H) o with
    | none => rw [he] at hv; cases hv
    | some v =>
      rw [he] at hv
      simp only [frcV_eq, putA_eq] at hv
      obtain ⟨b, hb, rfl⟩ := Option.map_eq_some_iff.1 hv
      exact ⟨n, b, hb, q⟩
  · intro hv
    cases he : pureA env (selM (minP (before.getD i []) K) nw H) o with
    | none => rw [he] at hv; exact hv.elim
    | some v =>
      rw [he] at hv
      obtain ⟨n, b, hb, q⟩ := hv
      refine ⟨n, b.add ⟨v, .fl, true, env⟩, ?_, q⟩
      simp only [bgo, wantA, h, hk, he, frcV_eq, putA_eq, hb]; rfl
theorem bg_eff {d : Option Pth} {o : AOp} (h : o.isNew = false) (hk : o.kd ≠ .pure) : @B S before (⟨d, o, none⟩ :: l) i id nw K env H ⟨Q⟩ ↔ @o1 S o env (selM (minP (before.getD i []) K) nw H) ⟨fun v H' => @B S before l (i + 1) id nw (K ++ before.getD i []) (putE env d v) H' ⟨badE ⟨v, .ef, true, env⟩ H' (K ++ before.getD i []) Q⟩⟩ := by
  show S.Bg _ _ _ _ _ _ _ _ _ ↔ S.Op1 _ _ _ _
  rw [op1_iff]
  constructor
  · rintro ⟨n, out, hv, q⟩
    simp only [bgo, wantA, h] at hv
    have hv2 : (match evOp (S.ev n) env (selM (minP (before.getD i []) K) nw H) o with
          | some (v, H') => frcV o.deep v fun v => frcM H' fun H' => putA env d v fun en => (bgo (S.ev n) before l (i + 1) id nw (K ++ before.getD i []) en H').map fun b => b.adde ⟨v, .ef, true, env⟩ H' (K ++ before.getD i [])
          | none => none) = some out := by
      cases hkd : o.kd with
      | pure => exact absurd hkd hk
      | _ => first | (rw [hkd] at hv; exact hv) | exact hv
    clear hv
    split at hv2 <;> try (cases hv2; done)
    rename_i v H' he
    simp only [frcV_eq, frcM_eq, putA_eq] at hv2
    obtain ⟨b, hb, rfl⟩ := Option.map_eq_some_iff.1 hv2
    exact ⟨n, v, H', he, n, b, hb, q⟩
  · rintro ⟨n, v, H', he, m, b, hb, q⟩
    refine ⟨max n m, b.adde ⟨v, .ef, true, env⟩ H' (K ++ before.getD i []), ?_, q⟩
    have e1 := evOp_mono (S.ev_mono (Nat.le_max_left n m)) he
    have e2 := bgo_mono (S.ev_mono (Nat.le_max_right n m)) _ hb
    simp only [bgo, wantA, h]
    cases hkd : o.kd with
    | pure => exact absurd hkd hk
    | _ => simp only [e1, frcV_eq, frcM_eq, putA_eq, e2]; rfl
section ops
@[go_sem] theorem bg_mv {d : Option Pth} {x : Opd} : @B S before (⟨d, .mv x, none⟩ :: l) i id nw K env H ⟨Q⟩ ↔ @o1 S (.mv x) env (selM (minP (before.getD i []) K) nw H) ⟨fun v _ => @B S before l (i + 1) id nw K (putE env d v) H ⟨bad ⟨v, .fl, true, env⟩ Q⟩⟩ := bg_pure rfl rfl
@[go_sem] theorem bg_pick {d : Option Pth} {x y z : Opd} : @B S before (⟨d, .pick x y z, none⟩ :: l) i id nw K env H ⟨Q⟩ ↔ @o1 S (.pick x y z) env (selM (minP (before.getD i []) K) nw H) ⟨fun v _ => @B S before l (i + 1) id nw K (putE env d v) H ⟨bad ⟨v, .fl, true, env⟩ Q⟩⟩ := bg_pure rfl rfl
@[go_sem] theorem bg_build {d : Option Pth} {z : List AV} {p : List (Nat × Nat × Opd)} : @B S before (⟨d, .build z p, none⟩ :: l) i id nw K env H ⟨Q⟩ ↔ @o1 S (.build z p) env (selM (minP (before.getD i []) K) nw H) ⟨fun v _ => @B S before l (i + 1) id nw K (putE env d v) H ⟨bad ⟨v, .fl, true, env⟩ Q⟩⟩ := bg_pure rfl rfl
@[go_sem] theorem bg_nilc {d : Option Pth} {x : Opd} : @B S before (⟨d, .nilc x, none⟩ :: l) i id nw K env H ⟨Q⟩ ↔ @o1 S (.nilc x) env (selM (minP (before.getD i []) K) nw H) ⟨fun v _ => @B S before l (i + 1) id nw K (putE env d v) H ⟨bad ⟨v, .fl, true, env⟩ Q⟩⟩ := bg_pure rfl rfl
@[go_sem] theorem bg_bin {d : Option Pth} {o : BinOp} {e : EqK} {x y : Opd} : @B S before (⟨d, .bin o e x y, none⟩ :: l) i id nw K env H ⟨Q⟩ ↔ @o1 S (.bin o e x y) env (selM (minP (before.getD i []) K) nw H) ⟨fun v _ => @B S before l (i + 1) id nw K (putE env d v) H ⟨bad ⟨v, .fl, true, env⟩ Q⟩⟩ := bg_pure rfl rfl
@[go_sem] theorem bg_un {d : Option Pth} {o : UnOp} {x : Opd} : @B S before (⟨d, .un o x, none⟩ :: l) i id nw K env H ⟨Q⟩ ↔ @o1 S (.un o x) env (selM (minP (before.getD i []) K) nw H) ⟨fun v _ => @B S before l (i + 1) id nw K (putE env d v) H ⟨bad ⟨v, .fl, true, env⟩ Q⟩⟩ := bg_pure rfl rfl
@[go_sem] theorem bg_convI {d : Option Pth} {k : IntKind} {x : Opd} : @B S before (⟨d, .conv (.int k) x, none⟩ :: l) i id nw K env H ⟨Q⟩ ↔ @o1 S (.conv (.int k) x) env (selM (minP (before.getD i []) K) nw H) ⟨fun v _ => @B S before l (i + 1) id nw K (putE env d v) H ⟨bad ⟨v, .fl, true, env⟩ Q⟩⟩ := bg_pure rfl rfl
@[go_sem] theorem bg_slS {d : Option Pth} {x : Opd} {a b : Option Opd} : @B S before (⟨d, .slS x a b, none⟩ :: l) i id nw K env H ⟨Q⟩ ↔ @o1 S (.slS x a b) env (selM (minP (before.getD i []) K) nw H) ⟨fun v _ => @B S before l (i + 1) id nw K (putE env d v) H ⟨bad ⟨v, .fl, true, env⟩ Q⟩⟩ := bg_pure rfl rfl
@[go_sem] theorem bg_fldA {d : Option Pth} {n : Nat} {x : Opd} : @B S before (⟨d, .fldA n x, none⟩ :: l) i id nw K env H ⟨Q⟩ ↔ @o1 S (.fldA n x) env (selM (minP (before.getD i []) K) nw H) ⟨fun v _ => @B S before l (i + 1) id nw K (putE env d v) H ⟨bad ⟨v, .fl, true, env⟩ Q⟩⟩ := bg_pure rfl rfl
@[go_sem] theorem bg_fld {d : Option Pth} {g : Bool} {n o : Nat} {x : Opd} : @B S before (⟨d, .fld g n o x, none⟩ :: l) i id nw K env H ⟨Q⟩ ↔ @o1 S (.fld g n o x) env (selM (minP (before.getD i []) K) nw H) ⟨fun v _ => @B S before l (i + 1) id nw K (putE env d v) H ⟨bad ⟨v, .fl, true, env⟩ Q⟩⟩ := bg_pure rfl rfl
@[go_sem] theorem bg_ixA {d : Option Pth} {n k : Nat} {x y : Opd} : @B S before (⟨d, .ixA n k x y, none⟩ :: l) i id nw K env H ⟨Q⟩ ↔ @o1 S (.ixA n k x y) env (selM (minP (before.getD i []) K) nw H) ⟨fun v _ => @B S before l (i + 1) id nw K (putE env d v) H ⟨bad ⟨v, .fl, true, env⟩ Q⟩⟩ := bg_pure rfl rfl
@[go_sem] theorem bg_ixV {d : Option Pth} {n : Nat} {x y : Opd} : @B S before (⟨d, .ixV n x y, none⟩ :: l) i id nw K env H ⟨Q⟩ ↔ @o1 S (.ixV n x y) env (selM (minP (before.getD i []) K) nw H) ⟨fun v _ => @B S before l (i + 1) id nw K (putE env d v) H ⟨bad ⟨v, .fl, true, env⟩ Q⟩⟩ := bg_pure rfl rfl
@[go_sem] theorem bg_ixS {d : Option Pth} {x y : Opd} : @B S before (⟨d, .ixS x y, none⟩ :: l) i id nw K env H ⟨Q⟩ ↔ @o1 S (.ixS x y) env (selM (minP (before.getD i []) K) nw H) ⟨fun v _ => @B S before l (i + 1) id nw K (putE env d v) H ⟨bad ⟨v, .fl, true, env⟩ Q⟩⟩ := bg_pure rfl rfl
@[go_sem] theorem bg_ixG {d : Option Pth} {g : Bool} {n k : Nat} {x y : Opd} : @B S before (⟨d, .ixG g n k x y, none⟩ :: l) i id nw K env H ⟨Q⟩ ↔ @o1 S (.ixG g n k x y) env (selM (minP (before.getD i []) K) nw H) ⟨fun v _ => @B S before l (i + 1) id nw K (putE env d v) H ⟨bad ⟨v, .fl, true, env⟩ Q⟩⟩ := bg_pure rfl rfl
@[go_sem] theorem bg_ext {d : Option Pth} {n : Nat} {x : Opd} : @B S before (⟨d, .ext x n, none⟩ :: l) i id nw K env H ⟨Q⟩ ↔ @o1 S (.ext x n) env (selM (minP (before.getD i []) K) nw H) ⟨fun v _ => @B S before l (i + 1) id nw K (putE env d v) H ⟨bad ⟨v, .fl, true, env⟩ Q⟩⟩ := bg_pure rfl rfl
@[go_sem] theorem bg_lenS {d : Option Pth} {x : Opd} : @B S before (⟨d, .lenS x, none⟩ :: l) i id nw K env H ⟨Q⟩ ↔ @o1 S (.lenS x) env (selM (minP (before.getD i []) K) nw H) ⟨fun v _ => @B S before l (i + 1) id nw K (putE env d v) H ⟨bad ⟨v, .fl, true, env⟩ Q⟩⟩ := bg_pure rfl rfl
@[go_sem] theorem bg_lenV {d : Option Pth} {x : Opd} : @B S before (⟨d, .lenV x, none⟩ :: l) i id nw K env H ⟨Q⟩ ↔ @o1 S (.lenV x) env (selM (minP (before.getD i []) K) nw H) ⟨fun v _ => @B S before l (i + 1) id nw K (putE env d v) H ⟨bad ⟨v, .fl, true, env⟩ Q⟩⟩ := bg_pure rfl rfl
@[go_sem] theorem bg_load {d : Option Pth} {a : Bool} {n : Nat} {x : Opd} : @B S before (⟨d, .load a n x, none⟩ :: l) i id nw K env H ⟨Q⟩ ↔ @o1 S (.load a n x) env (selM (minP (before.getD i []) K) nw H) ⟨fun v _ => @B S before l (i + 1) id nw K (putE env d v) H ⟨bad ⟨v, .fl, true, env⟩ Q⟩⟩ := bg_pure rfl rfl
@[go_sem] theorem bg_slV {d : Option Pth} {n : Nat} {x : Opd} {a b c : Option Opd} : @B S before (⟨d, .slV n x a b c, none⟩ :: l) i id nw K env H ⟨Q⟩ ↔ @o1 S (.slV n x a b c) env (selM (minP (before.getD i []) K) nw H) ⟨fun v _ => @B S before l (i + 1) id nw K (putE env d v) H ⟨bad ⟨v, .fl, true, env⟩ Q⟩⟩ := bg_pure rfl rfl
@[go_sem] theorem bg_alloc {d : Option Pth} {z : List AV} {n t : Nat} : @B S before (⟨d, .alloc z n t, none⟩ :: l) i id nw K env H ⟨Q⟩ ↔ @o1 S (.alloc z n t) env (mt id) ⟨fun v H' => @B S before l (i + 1) (id + 1) (nw ++ [(i, id, H'.get id)]) K (putE env d v) H ⟨bad ⟨v, .nw, true, env⟩ Q⟩⟩ := bg_new rfl
@[go_sem] theorem bg_box {d : Option Pth} {t : Nat} {x : Opd} : @B S before (⟨d, .box t x, none⟩ :: l) i id nw K env H ⟨Q⟩ ↔ @o1 S (.box t x) env (mt id) ⟨fun v H' => @B S before l (i + 1) (id + 1) (nw ++ [(i, id, H'.get id)]) K (putE env d v) H ⟨bad ⟨v, .nw, true, env⟩ Q⟩⟩ := bg_new rfl
@[go_sem] theorem bg_buildSl {d : Option Pth} {z : List AV} {n s t : Nat} {p : List (Nat × Opd)} : @B S before (⟨d, .buildSl z n s t p, none⟩ :: l) i id nw K env H ⟨Q⟩ ↔ @o1 S (.buildSl z n s t p) env (mt id) ⟨fun v H' => @B S before l (i + 1) (id + 1) (nw ++ [(i, id, H'.get id)]) K (putE env d v) H ⟨bad ⟨v, .nw, true, env⟩ Q⟩⟩ := bg_new rfl
@[go_sem] theorem bg_store {d : Option Pth} {n : Nat} {x y : Opd} : @B S before (⟨d, .store n x y, none⟩ :: l) i id nw K env H ⟨Q⟩ ↔ @o1 S (.store n x y) env (selM (minP (before.getD i []) K) nw H) ⟨fun v H' => @B S before l (i + 1) id nw (K ++ before.getD i []) (putE env d v) H' ⟨badE ⟨v, .ef, true, env⟩ H' (K ++ before.getD i []) Q⟩⟩ := bg_eff rfl (by simp [AOp.kd])
@[go_sem] theorem bg_app {d : Option Pth} {a b t : Nat} {z : List AV} {x y : Opd} : @B S before (⟨d, .app a b t z x y, none⟩ :: l) i id nw K env H ⟨Q⟩ ↔ @o1 S (.app a b t z x y) env (selM (minP (before.getD i []) K) nw H) ⟨fun v H' => @B S before l (i + 1) id nw (K ++ before.getD i []) (putE env d v) H' ⟨badE ⟨v, .ef, true, env⟩ H' (K ++ before.getD i []) Q⟩⟩ := bg_eff rfl (by simp [AOp.kd])
@[go_sem] theorem bg_call {d : Option Pth} {f : Nat} {a : List Opd} : @B S before (⟨d, .call f a, none⟩ :: l) i id nw K env H ⟨Q⟩ ↔ @o1 S (.call f a) env (selM (minP (before.getD i []) K) nw H) ⟨fun v H' => @B S before l (i + 1) id nw (K ++ before.getD i []) (putE env d v) H' ⟨badE ⟨v, .ef, true, env⟩ H' (K ++ before.getD i []) Q⟩⟩ := bg_eff rfl (by simp [AOp.kd])
@[go_sem] theorem bg_callv {d : Option Pth} {f : Opd} {a : List Opd} : @B S before (⟨d, .callv f a, none⟩ :: l) i id nw K env H ⟨Q⟩ ↔ @o1 S (.callv f a) env (selM (minP (before.getD i []) K) nw H) ⟨fun v H' => @B S before l (i + 1) id nw (K ++ before.getD i []) (putE env d v) H' ⟨badE ⟨v, .ef, true, env⟩ H' (K ++ before.getD i []) Q⟩⟩ := bg_eff rfl (by simp [AOp.kd])
end ops
@[go_sem] theorem selM_nil {p : Nat → Bool} : selM p [] H = H := rfl
@[go_sem] theorem selM_cons {p : Nat → Bool} {q : NW} {r : List NW} : selM p (q :: r) H = selM p r (bif p q.1 then H.put q.2.1 q.2.2 else H) := by
  unfold selM
  rw [List.filter_cons]
  cases p q.1 <;> rfl
@[go_sem] theorem minP_iff {bi K : List Nat} {j : Nat} : minP bi K j = (memN j bi && !memN j K) := rfl
@[go_sem] theorem nx_more {n : Nat} : (more H n).next = H.next + n := _root_.id rfl
@[go_sem] theorem get_more {n id : Nat} : (more H n).get id = H.get id := rfl
@[go_sem] theorem marks_more {n : Nat} : (more H n).marks = H.marks := rfl
@[go_sem] theorem efs_nil {i : Nat} : efs [] i = [] := rfl
@[go_sem] theorem efs_fl {v : AV} {w : Bool} {e : Tr} {r : List Brec} {i : Nat} : efs (⟨v, .fl, w, e⟩ :: r) i = efs r (i + 1) := rfl
@[go_sem] theorem efs_nw {v : AV} {w : Bool} {e : Tr} {r : List Brec} {i : Nat} : efs (⟨v, .nw, w, e⟩ :: r) i = efs r (i + 1) := rfl
@[go_sem] theorem efs_ef {v : AV} {w : Bool} {e : Tr} {r : List Brec} {i : Nat} : efs (⟨v, .ef, w, e⟩ :: r) i = i :: efs r (i + 1) := rfl
@[go_sem] theorem float2_nil {es : List Nat} {bases : List (Mem × List Nat)} {rs : List Brec} {i : Nat} : float2 before es bases nw [] rs i = true := by cases rs <;> rfl
@[go_sem] theorem float2_cons {es : List Nat} {bases : List (Mem × List Nat)} {o : AOper} {b : Brec} {rs : List Brec} {i : Nat} : float2 before es bases nw (o :: l) (b :: rs) i = ((bif o.op.looks && !o.op.effect && b.w then (((bases.drop (lowE (before.getD i []) es 0 0)).take (highE before i es 0 + 1 - lowE (before.getD i []) es 0 0)).all fun c => agn (pureA b.env (selM (minP (before.getD i []) c.2) nw c.1) o.op) b.v) else true) && float2 before es bases nw l rs (i + 1)) := rfl
@[go_sem] theorem freeOK_nil {nw : List NW} : freeOK [] nw = true := rfl
@[go_sem] theorem freeOK_cons {b : Mem × List Nat} {bs : List (Mem × List Nat)} {nw : List NW} : freeOK (b :: bs) nw = ((nw.all fun q => memN q.1 b.2 || isDead (b.1.get q.2.1)) && freeOK bs nw) := rfl
@[go_sem] theorem isDead_dead : isDead .dead = true := rfl
@[go_sem] theorem lastB_nil {b : Mem × List Nat} : lastB b [] = b := rfl
@[go_sem] theorem lastB_cons {a b : Mem × List Nat} {r : List (Mem × List Nat)} : lastB a (b :: r) = lastB b r := rfl
@[go_sem] theorem get_mt_push {j : Nat} {o : AO} : ((mt j).push o).get j = o := Mem.get_push_same (mt j) o
def slVC (id off sz c : Nat) : Option Nat → Option Nat → Option AV
  | some h, some l => if l ≤ h then (if h ≤ c then some (.sl id (if c = l then off else off + l * sz) (h - l) (some (c - l))) else none) else none
  | _, _ => none
def slVO (o : AO) (sz id off len c : Nat) (lo hi : Option AV) : Option AV := match o with
  | .mem _ z _ _ _ => if z = sz then slVC id off sz c (bnd hi len) (bnd lo 0) else none
  | _ => none
@[go_sem] theorem slVA_get {sz id off len c : Nat} {lo hi : Option AV} : slVA H sz (.sl id off len (some c)) lo hi none = slVO (H.get id) sz id off len c lo hi := by
  unfold slVO slVC
  simp only [slVA]
  cases H.get id with
  | mem a z t own frz => cases bnd hi len <;> cases bnd lo 0 <;> rfl
  | _ => rfl
@[go_sem] theorem slVO_mem {sz id off len c z t frz : Nat} {own : Bool} {l : List AV} {lo hi : Option AV} : slVO (.mem l z t own frz) sz id off len c lo hi = if z = sz then slVC id off sz c (bnd hi len) (bnd lo 0) else none := rfl
@[go_sem] theorem slVC_some {id off sz c h l : Nat} : slVC id off sz c (some h) (some l) = if l ≤ h then (if h ≤ c then some (.sl id (if c = l then off else off + l * sz) (h - l) (some (c - l))) else none) else none := rfl
/-- An append for which there is no room. -/
theorem appA_cap {sz bytes t id off len c n frz t' : Nat} {own : Bool} {z ys l : List AV} {u : AV} (hs : Fw.src H sz u = some (ys, n)) (hone : ys.all AV.one = true) (h0 : 0 < sz) (hz : z.length = sz) (hn : 0 < n) (hb : (len + n) * bytes ≤ 140737488355328) (hb2 : len + n ≤ 140737488355328)
    (hg : H.get id = .mem l sz t' own frz) (hl : off + len * sz ≤ l.length) (hc : c < len + n) :
    appA H sz bytes t z (.sl id off len (some c)) u = some (.sl H.next 0 (len + n) none, H.push (.mem ((l.drop off).take (len * sz) ++ ys) sz t true 0)) := by
  have hh : ¬ (ys.all AV.one = false ∨ sz = 0 ∨ z.length ≠ sz) := fun e => by
    rcases e with e | e | e
    · rw [hone] at e; cases e
    · omega
    · exact e hz
  simp only [appA, hs]
  rw [if_neg hh, if_neg (by omega), if_pos ⟨hb, hb2⟩]
  simp only [hg]
  rw [if_pos ⟨trivial, hl⟩, if_neg (by omega)]
theorem Wf.more {n : Nat} (w : Wf H) : Wf (more H n) := fun id hd => by have := w id hd; simp only [nx_more]; omega
/-- A region with allocations side by side, in its text's order. -/
theorem w_dregB {Q : Ex → Tr → Mem → Prop} (es : List Nat) (m : Nat) (hS : S.dr = drAB) (hm : nNew l = m) (hs : statOK l before = false) (h2 : (chainOK before [] es && onceOK (writers l 0) && reads2 before (writers l 0) l 0) = true)
    (h : @B S before l 0 H.next [] [] env (more H m) ⟨fun out => efs out.recs 0 = es ∧ freeOK ((more H m, []) :: out.bs) out.nw = true ∧ float2 before es ((more H m, []) :: out.bs) out.nw l out.recs 0 = true ∧
      Q .nm out.env (selM (fun j => !memN j (lastB (more H m, []) out.bs).2) out.nw (lastB (more H m, []) out.bs).1)⟩) : @W S rd (.dreg l before) env H ⟨Q⟩ := by
  subst hm
  obtain ⟨n, out, hb, he, hf, hl, q⟩ := h
  refine ⟨n, .nm, out.env, _, ?_, q⟩
  simp only [evCode, hS, drAB, hs, drB, frcN_eq, hb, he, h2, hf, hl, Bool.and_self, frcM_eq]
end Sys
end Go.Fw
end
section
/- The end of a walk: what the machine does, from nothing but the globals. -/
namespace Go.Fw
open Go.RowKit
def mu0 (G : Nat) : Mp := ⟨fun id => id < G, fun id => ⟨id, 0, 0, 0⟩⟩
def mem0 (G : Nat) : Mem := ⟨G, .e, []⟩
def bd0 (n : Nat) : Bd := ⟨fun k => k < n, fun _ => False, fun _ => False, fun _ h => h.elim⟩
theorem get_mem0 (G id : Nat) : (mem0 G).get id = .dead := by cases id <;> rfl
theorem wf_mem0 (G : Nat) : Sys.Wf (mem0 G) := fun id h => absurd (get_mem0 G id) h
theorem rep0 (P : Program) (w : World) (G : Nat) : Rep P (bd0 w.heap.size) w (mu0 G) (mem0 G) w where
  below := Stay.refl _ _
  base := fun _ h => h
  n := fun _ h => h
  obj := fun id h => absurd (get_mem0 G id) h
  inj := fun i j _ h => by rw [get_mem0] at h; cases h
  ro := fun i _ h => absurd (get_mem0 G i) h
  rlt := fun _ h => h.elim
  rno := fun _ h => h.elim
theorem gl0 (P : Program) : Gl P (mu0 P.globals.size) := fun _ h => ⟨h, rfl, rfl⟩
def T.allP {α : Type} (p : Nat → α → Prop) : T α → (Nat → Nat) → Prop
  | .e, _ => True
  | .n v l r, g => (match v with | some x => p (g 0) x | none => True) ∧ T.allP p l (fun k => g (2 * k + 1)) ∧ T.allP p r (fun k => g (2 * k + 2))
theorem T.allP_get {α : Type} {p : Nat → α → Prop} : ∀ {t : T α} {g : Nat → Nat}, T.allP p t g → ∀ (k : Nat) (x : α), t.get k = some x → p (g k) x
  | .e, g, _, k, x, h => by simp [T.get] at h
  | .n v l r, g, hp, k, x, h => by
    obtain ⟨h1, h2, h3⟩ := hp
    simp only [T.get] at h
    split at h
    · rename_i e; subst e; subst h; exact h1
    · split at h
      · have := T.allP_get h2 _ _ h
        rw [show 2 * (k / 2) + 1 = k by omega] at this; exact this
      · have := T.allP_get h3 _ _ h
        rw [show 2 * (k / 2 - 1) + 2 = k by omega] at this; exact this
theorem close0 {P : Program} {S : Sys} (hdr : DregOK P S.dr) (hX : ∀ B w0, CallOK P B w0 S.X) (hF : ∀ f af, S.F f = some af → compF P f = some af) {f : Nat} {args : List AV} {us : Array Value} {w : World} {K : AV → Mem → Prop}
    (hx : S.X (.f f) args (mem0 P.globals.size) = none) (h : @Sys.R S (.f f) args (mem0 P.globals.size) ⟨K⟩) (ha : VRs (mu0 P.globals.size) args us.toList) :
    Calls P f us w fun e w' => ∃ c μ' v H', e = .returned c ∧ VR μ' v c ∧ K v H' ∧ Below w.heap.size w w' := by
  obtain ⟨n, v, H', hv, q⟩ := h
  cases n with
  | zero => simp [Sys.ev, evFn] at hv
  | succ n =>
    simp only [Sys.ev, evFn, hx] at hv
    split at hv <;> try (cases hv; done)
    rename_i af haf
    obtain ⟨h0, h1, h2⟩ := body_sound hdr (evFn_sound hdr hX hF n) n (hF f af haf) hv (rep0 P w P.globals.size) (gl0 P) ha
    have h3 : CallsIn Fence.wide 0 P f us w _ := h2 0
    rw [callsIn_wide] at h3
    refine Calls.mono h3 ?_
    rintro e w' ⟨c, μ', rfl, _, hr, hvr⟩
    exact ⟨c, μ', v, H', rfl, hvr, q, hr.below.os, hr.below.tape, hr.below.output, hr.below.size, hr.below.block⟩
end Go.Fw
end
section
/- Builder.String, with the whole world that it leaves: over any program that bears the library's functions. -/
namespace Go.Fw
open Go Go.Proofs Go.Shelf Go.RowKit
variable {P : Program} {ρ : Ren}
set_option maxHeartbeats 2000000 in
set_option maxRecDepth 100000 in
theorem builder_string (L : Lays.n169 P ρ) (X : Builder.Extra P ρ) (b g cap n : Nat) (l : List UInt8) (w : World) (h0 : l ≠ []) (hc : l.length ≤ cap) (hn : cap ≤ n) (hmax : l.length ≤ 9223372036854775807)
    (hb : w.cell? ⟨b, 1, none⟩ = some (.slice (some ⟨g, 0, none⟩) l.length cap)) (hg : w.shape? g = some (ρ.t 5, n)) (hcell : ∀ (j : Nat) (x : UInt8), l[j]? = some x → w.cell? ⟨g, j, none⟩ = some (.int .u8 x.toNat)) :
    Calls P (ρ.f 169) #[.pointer (some ⟨b, 0, none⟩)] w fun e w' => e = .returned (.string ⟨l.toArray⟩) ∧ ∃ w1 : World, w1.heap = w.heap ∧ Below w.heap.size w w1 ∧ w' = w1.freeze ⟨g, 0, none⟩ l.length := by
  have hl0 : l.length ≠ 0 := by simpa using h0
  have c1 : w.drew.cell? ⟨b, 1, none⟩ = some (.slice (some ⟨g, 0, none⟩) l.length cap) := hb
  have hSD : (Builtin.unsafeSliceData_ #[(ρ.t 37)] (ρ.t 127) #[.slice (some ⟨g, 0, none⟩) l.length cap]).run P w.drew = .ok (.pointer (some ⟨g, 0, none⟩)) w.drew :=
    Lib.run_unsafeSliceData_row _ _ _ _ _ _ (by omega)
  have hUS : (Builtin.unsafeString_ #[(ρ.t 127), (ρ.t 3)] (ρ.t 9) #[.pointer (some ⟨g, 0, none⟩), .int .i64 l.length]).run P w.drew = .ok (.string ⟨l.toArray⟩) (w.drew.freeze ⟨g, 0, none⟩ l.length) := by
    refine Lib.run_unsafeString_row w.drew (ρ.t 127) (ρ.t 3) (ρ.t 9) (ρ.t 5) L.t127 X.cellsByte g n hg l h0 (by omega) hmax ?_
    intro j x hx
    have := hcell j x hx
    simp only [Addr.add]
    split
    · rename_i e; subst e; exact this
    · simpa using this
  have mixed := L.mixed
  have t72 := L.t72; have a72 := L.a72; have z72 := L.z72; have v72 := L.v72; have u72 := run_underlying L.t72
  have t70 := L.t70; have a70 := L.a70; have z70 := L.z70; have v70 := L.v70; have u70 := run_underlying L.t70
  have t37 := L.t37; have a37 := L.a37; have z37 := L.z37; have v37 := L.v37; have u37 := run_underlying L.t37
  have t127 := L.t127; have a127 := L.a127; have z127 := L.z127; have v127 := L.v127; have u127 := run_underlying L.t127
  have t3 := L.t3; have a3 := L.a3; have z3 := L.z3; have v3 := L.v3; have u3 := run_underlying L.t3
  have t9 := L.t9; have a9 := L.a9; have z9 := L.z9; have v9 := L.v9; have u9 := run_underlying L.t9
  have t5 := X.t5; have a5 := X.a5; have z5 := X.z5; have v5 := X.v5; have u5 := run_underlying X.t5
  go_enter L.f169, Body.n169_ntmps ρ
  go_wp2
  go_region_o
  all_goals (go_wp2; go_ret; exact ⟨rfl, w.drew, rfl, Below.drew (Below.refl _ w), rfl⟩)
set_option maxHeartbeats 2000000 in
set_option maxRecDepth 100000 in
theorem builder_string0 (L : Lays.n169 P ρ) (X : Builder.Extra P ρ) (b : Nat) (w : World) (hb : w.cell? ⟨b, 1, none⟩ = some (.slice none 0 0)) :
    Calls P (ρ.f 169) #[.pointer (some ⟨b, 0, none⟩)] w fun e w' => e = .returned (.string ⟨#[]⟩) ∧ Below w.heap.size w w' := by
  have hUS := Any.unsafeString_none L X
  have c1 : w.drew.cell? ⟨b, 1, none⟩ = some (.slice none 0 0) := hb
  have hSD : (Builtin.unsafeSliceData_ #[(ρ.t 37)] (ρ.t 127) #[.slice none 0 0]).run P w.drew = .ok (.pointer none) w.drew := rfl
  have mixed := L.mixed
  have t72 := L.t72; have a72 := L.a72; have z72 := L.z72; have v72 := L.v72; have u72 := run_underlying L.t72
  have t70 := L.t70; have a70 := L.a70; have z70 := L.z70; have v70 := L.v70; have u70 := run_underlying L.t70
  have t37 := L.t37; have a37 := L.a37; have z37 := L.z37; have v37 := L.v37; have u37 := run_underlying L.t37
  have t127 := L.t127; have a127 := L.a127; have z127 := L.z127; have v127 := L.v127; have u127 := run_underlying L.t127
  have t3 := L.t3; have a3 := L.a3; have z3 := L.z3; have v3 := L.v3; have u3 := run_underlying L.t3
  have t9 := L.t9; have a9 := L.a9; have z9 := L.z9; have v9 := L.v9; have u9 := run_underlying L.t9
  have t5 := X.t5; have a5 := X.a5; have z5 := X.z5; have v5 := X.v5; have u5 := run_underlying X.t5
  go_enter L.f169, Body.n169_ntmps ρ
  go_wp2
  go_region_o
  all_goals (go_wp2; go_ret; exact ⟨rfl, Below.drew (Below.refl _ w)⟩)
end Go.Fw
end
section
/- From a walk that leaves what was there to what a law's row says: true, and the arguments read as they did. -/
namespace Go.Fw
open Go Go.ChangeShapes Go.WideShapes Go.ChangeAt Go.RowKit
variable {H : Type} {enc : TypeId × Value → H} {P : Program}
theorem trodAll_stays (hl : laidOutB P = true) {W W' : World} {sp' : Nat → Bool} : ∀ {ts : List TypeId} {vs : List Value} {ds : List (DataW H)} {ps : List MemPlace}, (∀ t ∈ ts, P.readableRec t = true ∧ t < P.types.size) →
    DataW.TrodAll enc P W 0 (fun _ => true) true ts vs ds ps → (∀ p ∈ ps, W.sameAt W' p) → (∀ p ∈ ps, sp' p.block = true) → DataW.TrodAll enc P W' 0 sp' true ts vs ds ps
  | [], [], [], _, _, h, _, _ => h
  | t :: ts, v :: vs, d :: ds, _, ht, ⟨p, q, h1, h2, e⟩, hs, hp => by
    subst e
    exact ⟨p, q, WideElems.Trod_stays hl (ht t (by simp)).1 (ht t (by simp)).2 h1 (fun x hx => hs x (by simp [hx])) (fun x hx => hp x (by simp [hx])), trodAll_stays hl (fun u hu => ht u (by simp [hu])) h2 (fun x hx => hs x (by simp [hx])) (fun x hx => hp x (by simp [hx])), rfl⟩
  | [], _ :: _, _, _, _, h, _, _ => h.elim
  | [], [], _ :: _, _, _, h, _, _ => h.elim
  | _ :: _, [], _, _, _, h, _, _ => h.elim
  | _ :: _, _ :: _, [], _, _, h, _, _ => h.elim
theorem post_true (hl : laidOutB P = true) {f : Func} {s : ChangeSpec} {apart fresh handsOn again : Bool} {W W' : World} {args : Array Value} {ds gs : List (DataW H)} {before : List MemPlace} {tb : TypeId}
    (hp0 : (f.params.toList.all fun t => P.readableRec t && decide (t < P.types.size)) = true) (hr : f.resultTypes = #[tb]) (hb : P.underlying tb = some .bool) (hv : s.vars = [])
    (hs : ∀ d : List (DataW H), d.length = f.params.size → s.fn H d = { results := [.lit (.bool true)], args := d })
    (hW : DataW.Whole enc P f.params.toList s.vars apart W args.toList ds gs before) (hB : Below W.heap.size W W') : s.post enc P f apart fresh handsOn again W args (.bool true) W' := by
  have hp : ∀ t ∈ f.params.toList, P.readableRec t = true ∧ t < P.types.size := fun t ht => by simpa using List.all_eq_true.1 hp0 t ht
  have hlt := fun p hp => hW.lt p hp
  have hW' := hW
  obtain ⟨p, q, hA, hV, e, hz, hn⟩ := hW'
  rw [hv] at hV
  obtain ⟨rfl, rfl⟩ := trodVars_none hV
  simp only [List.append_nil] at e
  subst e
  have hlen : ∀ {ts : List TypeId} {vs : List Value} {ds : List (DataW H)} {ps : List MemPlace}, DataW.TrodAll enc P W 0 (fun _ => true) true ts vs ds ps → ds.length = ts.length := by
    intro ts
    induction ts with
    | nil => intro vs ds ps h; obtain ⟨_, rfl, _⟩ := trodAll_nil h; rfl
    | cons t ts ih =>
      intro vs ds ps h
      obtain ⟨v, vs1, d, ds1, a, b, rfl, rfl, rfl, h1, h2⟩ := trodAll_cons h
      simp [ih h2]
  have hs' := hs ds (by have := hlen hA; simpa using this)
  have hst : ∀ sp : Nat → Bool, (∀ x ∈ before, sp x.block = true) → DataW.TrodAll enc P W' 0 sp true f.params.toList args.toList ds before := fun sp hsp => trodAll_stays hl hp hA (fun x hx => hB.same (hlt x hx)) hsp
  have hres : ∀ (b : Nat) (sp : Nat → Bool) (hd : Bool), DataW.TrodAll enc P W' b sp hd f.resultTypes.toList ((Value.bool true).resultList f.resultTypes.size) [.lit (.bool true)] [] := by
    intro b sp hd
    rw [hr]
    exact trodAll_mk1 (shut_bool hb true)
  have hvs : DataW.TrodVars enc P W' (fun b => decide (b < W.heap.size)) s.vars ([] : List (DataW H)) [] := by rw [hv]; rfl
  have hvs2 : DataW.TrodVars enc P W' (fun _ => true) s.vars ([] : List (DataW H)) [] := by rw [hv]; rfl
  have hA2 := trodAll_append (hst (fun _ => true) (fun _ _ => rfl)) (hres 0 (fun _ => true) true)
  refine ⟨ds, [], before, [], before, [], hW, ?_, ?_, ?_, hB.frame _, fun _ => ⟨ok_one hr rfl (okWide_bool_mk hb true), [.lit (.bool true)] ++ ds, [], before, ⟨before, [], hA2, hvs2, by simp, ?_, hn⟩, fun x hx _ => hx⟩⟩
  · rw [List.append_nil, hs']; exact hres _ _ _
  · rw [List.append_nil, hs']; exact hst _ (fun x hx => by simpa using hlt x hx)
  · rw [List.append_nil, hs']; exact hvs
  · intro b off hx
    have := hlt _ hx
    rw [hB.frozen this]
    exact hz b off hx
end Go.Fw
end
section
/- The end of a walk whose arguments are read: objects that are read alone, tables among them. -/
namespace Go.Fw
open Go.RowKit
variable {P : Program} {B : Bd} {w0 w : World} {μ : Mp} {H : Mem}
def bdR (n : Nat) : Bd := ⟨fun k => k < n, fun k => k < n, fun _ => False, fun _ h => h⟩
theorem repR (P : Program) (w : World) (G : Nat) : Rep P (bdR w.heap.size) w (mu0 G) (mem0 G) w where
  below := Stay.refl _ _
  base := fun _ h => h
  n := fun _ h => h
  obj := fun id h => absurd (get_mem0 G id) h
  inj := fun i j _ h => by rw [get_mem0] at h; cases h
  ro := fun i _ h => absurd (get_mem0 G i) h
  rlt := fun _ h => h.elim
  rno := fun _ h => h.elim
theorem Rep.putRo (h : Rep P B w0 μ H w) {g : Nat} {o : AO} (hd : H.get g = .dead) (hg : μ.has g) (ho : o.owns = false) (hob : ObjR P B μ w (μ.f g) o) (hro : B.ro (μ.f g).blk) : Rep P B w0 μ (H.put g o) w := by
  refine ⟨h.below, h.base, h.n, fun id hi => ?_, fun i j hij oi oj => ?_, fun i oi di => ?_, h.rlt, h.rno⟩
  · rw [Mem.get_put] at hi ⊢
    by_cases e : id = g
    · subst e; rw [if_pos rfl]; exact ⟨hg, hob⟩
    · rw [if_neg e] at hi ⊢; exact h.obj id hi
  · rw [Mem.get_put] at oi oj
    by_cases ei : i = g
    · rw [if_pos ei, ho] at oi; cases oi
    · by_cases ej : j = g
      · rw [if_pos ej, ho] at oj; cases oj
      · rw [if_neg ei] at oi; rw [if_neg ej] at oj
        exact h.inj i j hij oi oj
  · rw [Mem.get_put] at oi di
    by_cases ei : i = g
    · subst ei; exact hro
    · rw [if_neg ei] at oi di; exact h.ro i oi di
theorem Rep.pushRo (h : Rep P B w0 μ H w) {k : Blk} {o : AO} (ho : o.owns = false) (hob : ObjR P B (μ.push H.next k) w k o) (hro : B.ro k.blk) : Rep P B w0 (μ.push H.next k) (H.push o) w := by
  have hne : ∀ id, H.get id ≠ .dead → id ≠ H.next := fun id hd e => hd (h.far (by omega))
  refine ⟨h.below, h.base, fun id hi => ?_, fun id hi => ?_, fun i j hij oi oj => ?_, fun i oi di => ?_, fun id hi => Nat.lt_succ_of_lt (h.rlt id hi), fun id hi hh => hh.elim (fun e => Nat.lt_irrefl _ (e ▸ h.rlt id hi)) (h.rno id hi)⟩
  · rcases hi with hi | hi
    · subst hi; simp
    · have := h.n id hi; simp; omega
  · rw [Mem.get_push] at hi ⊢
    by_cases e : id = H.next
    · rw [if_pos e, e, Mp.push_f]; exact ⟨.inl rfl, hob⟩
    · rw [if_neg e] at hi ⊢
      rw [Mp.push_f_ne _ _ _ e]
      exact ⟨.inr (h.obj id hi).1, (h.obj id hi).2.keep (h.le _) rfl⟩
  · rw [Mem.get_push] at oi oj
    by_cases ei : i = H.next
    · rw [if_pos ei, ho] at oi; cases oi
    · by_cases ej : j = H.next
      · rw [if_pos ej, ho] at oj; cases oj
      · rw [if_neg ei] at oi; rw [if_neg ej] at oj
        rw [Mp.push_f_ne _ _ _ ei, Mp.push_f_ne _ _ _ ej]
        exact h.inj i j hij oi oj
  · rw [Mem.get_push] at oi di
    by_cases ei : i = H.next
    · rw [ei, Mp.push_f]; exact hro
    · rw [if_neg ei] at oi di
      rw [Mp.push_f_ne _ _ _ ei]
      exact h.ro i oi di
theorem gl_le {μ ν : Mp} (h : Gl P μ) (k : μ.le ν) : Gl P ν := fun i hi => by
  obtain ⟨a, b, c⟩ := h i hi
  obtain ⟨d, e⟩ := k i a
  exact ⟨d, by rw [e]; exact b, by rw [e]; exact c⟩
theorem close1 {S : Sys} (hdr : DregOK P S.dr) (hX : ∀ B w0, CallOK P B w0 S.X) (hF : ∀ f af, S.F f = some af → compF P f = some af) {f : Nat} {args : List AV} {us : Array Value} {K : AV → Mem → Prop}
    (hr : Rep P (bdR w.heap.size) w μ H w) (hg : Gl P μ) (hx : S.X (.f f) args H = none) (h : @Sys.R S (.f f) args H ⟨K⟩) (ha : VRs μ args us.toList) :
    Calls P f us w fun e w' => ∃ c μ' v H', e = .returned c ∧ VR μ' v c ∧ K v H' ∧ Below w.heap.size w w' := by
  obtain ⟨n, v, H', hv, q⟩ := h
  cases n with
  | zero => simp [Sys.ev, evFn] at hv
  | succ n =>
    simp only [Sys.ev, evFn, hx] at hv
    split at hv <;> try (cases hv; done)
    rename_i af haf
    obtain ⟨h0, h1, h2⟩ := body_sound hdr (evFn_sound hdr hX hF n) n (hF f af haf) hv hr hg ha
    have h3 : CallsIn Fence.wide 0 P f us w _ := h2 0
    rw [callsIn_wide] at h3
    refine Calls.mono h3 ?_
    rintro e w' ⟨c, μ', rfl, _, hr, hvr⟩
    exact ⟨c, μ', v, H', rfl, hvr, q, hr.below.os, hr.below.tape, hr.below.output, hr.below.size, hr.below.block⟩
end Go.Fw
end
section
/- Numbers of functions, types and variables, by name (printed by gen2.py). -/
namespace Go.Fw.Ro
abbrev p0 : Pth := .h
abbrev p1 : Pth := (.l .h)
abbrev p2 : Pth := (.r .h)
abbrev p3 : Pth := (.l (.l .h))
abbrev p4 : Pth := (.r (.l .h))
abbrev p5 : Pth := (.l (.r .h))
abbrev p6 : Pth := (.r (.r .h))
abbrev p7 : Pth := (.l (.l (.l .h)))
abbrev p8 : Pth := (.r (.l (.l .h)))
abbrev p9 : Pth := (.l (.r (.l .h)))
abbrev p10 : Pth := (.r (.r (.l .h)))
abbrev p11 : Pth := (.l (.l (.r .h)))
abbrev p12 : Pth := (.r (.l (.r .h)))
abbrev p13 : Pth := (.l (.r (.r .h)))
abbrev p14 : Pth := (.r (.r (.r .h)))
abbrev p15 : Pth := (.l (.l (.l (.l .h))))
abbrev p16 : Pth := (.r (.l (.l (.l .h))))
abbrev p17 : Pth := (.l (.r (.l (.l .h))))
abbrev p18 : Pth := (.r (.r (.l (.l .h))))
abbrev p19 : Pth := (.l (.l (.r (.l .h))))
abbrev p20 : Pth := (.r (.l (.r (.l .h))))
abbrev p21 : Pth := (.l (.r (.r (.l .h))))
abbrev p22 : Pth := (.r (.r (.r (.l .h))))
abbrev p23 : Pth := (.l (.l (.l (.r .h))))
abbrev p24 : Pth := (.r (.l (.l (.r .h))))
abbrev p25 : Pth := (.l (.r (.l (.r .h))))
abbrev p26 : Pth := (.r (.r (.l (.r .h))))
abbrev p27 : Pth := (.l (.l (.r (.r .h))))
abbrev p28 : Pth := (.r (.l (.r (.r .h))))
abbrev p29 : Pth := (.l (.r (.r (.r .h))))
abbrev p30 : Pth := (.r (.r (.r (.r .h))))
abbrev p31 : Pth := (.l (.l (.l (.l (.l .h)))))
abbrev p32 : Pth := (.r (.l (.l (.l (.l .h)))))
abbrev p33 : Pth := (.l (.r (.l (.l (.l .h)))))
abbrev p34 : Pth := (.r (.r (.l (.l (.l .h)))))
abbrev p35 : Pth := (.l (.l (.r (.l (.l .h)))))
abbrev p36 : Pth := (.r (.l (.r (.l (.l .h)))))
abbrev p37 : Pth := (.l (.r (.r (.l (.l .h)))))
abbrev p38 : Pth := (.r (.r (.r (.l (.l .h)))))
abbrev p39 : Pth := (.l (.l (.l (.r (.l .h)))))
abbrev p40 : Pth := (.r (.l (.l (.r (.l .h)))))
abbrev p41 : Pth := (.l (.r (.l (.r (.l .h)))))
abbrev p42 : Pth := (.r (.r (.l (.r (.l .h)))))
abbrev p43 : Pth := (.l (.l (.r (.r (.l .h)))))
abbrev p44 : Pth := (.r (.l (.r (.r (.l .h)))))
abbrev p45 : Pth := (.l (.r (.r (.r (.l .h)))))
abbrev p46 : Pth := (.r (.r (.r (.r (.l .h)))))
abbrev p47 : Pth := (.l (.l (.l (.l (.r .h)))))
abbrev p48 : Pth := (.r (.l (.l (.l (.r .h)))))
abbrev p49 : Pth := (.l (.r (.l (.l (.r .h)))))
abbrev p50 : Pth := (.r (.r (.l (.l (.r .h)))))
abbrev p51 : Pth := (.l (.l (.r (.l (.r .h)))))
abbrev p52 : Pth := (.r (.l (.r (.l (.r .h)))))
abbrev p53 : Pth := (.l (.r (.r (.l (.r .h)))))
abbrev p54 : Pth := (.r (.r (.r (.l (.r .h)))))
abbrev p55 : Pth := (.l (.l (.l (.r (.r .h)))))
abbrev p56 : Pth := (.r (.l (.l (.r (.r .h)))))
abbrev p57 : Pth := (.l (.r (.l (.r (.r .h)))))
abbrev p58 : Pth := (.r (.r (.l (.r (.r .h)))))
abbrev p59 : Pth := (.l (.l (.r (.r (.r .h)))))
abbrev p60 : Pth := (.r (.l (.r (.r (.r .h)))))
abbrev p61 : Pth := (.l (.r (.r (.r (.r .h)))))
abbrev p62 : Pth := (.r (.r (.r (.r (.r .h)))))
abbrev p63 : Pth := (.l (.l (.l (.l (.l (.l .h))))))
abbrev p64 : Pth := (.r (.l (.l (.l (.l (.l .h))))))
abbrev p65 : Pth := (.l (.r (.l (.l (.l (.l .h))))))
abbrev p66 : Pth := (.r (.r (.l (.l (.l (.l .h))))))
abbrev p67 : Pth := (.l (.l (.r (.l (.l (.l .h))))))
abbrev p68 : Pth := (.r (.l (.r (.l (.l (.l .h))))))
abbrev p69 : Pth := (.l (.r (.r (.l (.l (.l .h))))))
abbrev p70 : Pth := (.r (.r (.r (.l (.l (.l .h))))))
abbrev p71 : Pth := (.l (.l (.l (.r (.l (.l .h))))))
abbrev p72 : Pth := (.r (.l (.l (.r (.l (.l .h))))))
abbrev p73 : Pth := (.l (.r (.l (.r (.l (.l .h))))))
abbrev p74 : Pth := (.r (.r (.l (.r (.l (.l .h))))))
abbrev p75 : Pth := (.l (.l (.r (.r (.l (.l .h))))))
abbrev p76 : Pth := (.r (.l (.r (.r (.l (.l .h))))))
abbrev p77 : Pth := (.l (.r (.r (.r (.l (.l .h))))))
abbrev p78 : Pth := (.r (.r (.r (.r (.l (.l .h))))))
abbrev p79 : Pth := (.l (.l (.l (.l (.r (.l .h))))))
abbrev p80 : Pth := (.r (.l (.l (.l (.r (.l .h))))))
abbrev p81 : Pth := (.l (.r (.l (.l (.r (.l .h))))))
abbrev p82 : Pth := (.r (.r (.l (.l (.r (.l .h))))))
abbrev p83 : Pth := (.l (.l (.r (.l (.r (.l .h))))))
abbrev p84 : Pth := (.r (.l (.r (.l (.r (.l .h))))))
abbrev p85 : Pth := (.l (.r (.r (.l (.r (.l .h))))))
abbrev p86 : Pth := (.r (.r (.r (.l (.r (.l .h))))))
abbrev p87 : Pth := (.l (.l (.l (.r (.r (.l .h))))))
abbrev p88 : Pth := (.r (.l (.l (.r (.r (.l .h))))))
abbrev p89 : Pth := (.l (.r (.l (.r (.r (.l .h))))))
abbrev p90 : Pth := (.r (.r (.l (.r (.r (.l .h))))))
abbrev p91 : Pth := (.l (.l (.r (.r (.r (.l .h))))))
abbrev p92 : Pth := (.r (.l (.r (.r (.r (.l .h))))))
abbrev p93 : Pth := (.l (.r (.r (.r (.r (.l .h))))))
abbrev p94 : Pth := (.r (.r (.r (.r (.r (.l .h))))))
abbrev p95 : Pth := (.l (.l (.l (.l (.l (.r .h))))))
abbrev p96 : Pth := (.r (.l (.l (.l (.l (.r .h))))))
abbrev p97 : Pth := (.l (.r (.l (.l (.l (.r .h))))))
abbrev p98 : Pth := (.r (.r (.l (.l (.l (.r .h))))))
abbrev p99 : Pth := (.l (.l (.r (.l (.l (.r .h))))))
abbrev p100 : Pth := (.r (.l (.r (.l (.l (.r .h))))))
abbrev p101 : Pth := (.l (.r (.r (.l (.l (.r .h))))))
abbrev p102 : Pth := (.r (.r (.r (.l (.l (.r .h))))))
abbrev p103 : Pth := (.l (.l (.l (.r (.l (.r .h))))))
abbrev p104 : Pth := (.r (.l (.l (.r (.l (.r .h))))))
abbrev p105 : Pth := (.l (.r (.l (.r (.l (.r .h))))))
abbrev p106 : Pth := (.r (.r (.l (.r (.l (.r .h))))))
abbrev p107 : Pth := (.l (.l (.r (.r (.l (.r .h))))))
abbrev p108 : Pth := (.r (.l (.r (.r (.l (.r .h))))))
abbrev p109 : Pth := (.l (.r (.r (.r (.l (.r .h))))))
abbrev p110 : Pth := (.r (.r (.r (.r (.l (.r .h))))))
abbrev p111 : Pth := (.l (.l (.l (.l (.r (.r .h))))))
abbrev p112 : Pth := (.r (.l (.l (.l (.r (.r .h))))))
abbrev p113 : Pth := (.l (.r (.l (.l (.r (.r .h))))))
abbrev p114 : Pth := (.r (.r (.l (.l (.r (.r .h))))))
abbrev p115 : Pth := (.l (.l (.r (.l (.r (.r .h))))))
abbrev p116 : Pth := (.r (.l (.r (.l (.r (.r .h))))))
abbrev p117 : Pth := (.l (.r (.r (.l (.r (.r .h))))))
abbrev p118 : Pth := (.r (.r (.r (.l (.r (.r .h))))))
abbrev p119 : Pth := (.l (.l (.l (.r (.r (.r .h))))))
abbrev p120 : Pth := (.r (.l (.l (.r (.r (.r .h))))))
abbrev p121 : Pth := (.l (.r (.l (.r (.r (.r .h))))))
abbrev p122 : Pth := (.r (.r (.l (.r (.r (.r .h))))))
abbrev p123 : Pth := (.l (.l (.r (.r (.r (.r .h))))))
abbrev p124 : Pth := (.r (.l (.r (.r (.r (.r .h))))))
abbrev p125 : Pth := (.l (.r (.r (.r (.r (.r .h))))))
abbrev p126 : Pth := (.r (.r (.r (.r (.r (.r .h))))))
abbrev p127 : Pth := (.l (.l (.l (.l (.l (.l (.l .h)))))))
abbrev p128 : Pth := (.r (.l (.l (.l (.l (.l (.l .h)))))))
abbrev p129 : Pth := (.l (.r (.l (.l (.l (.l (.l .h)))))))
abbrev p130 : Pth := (.r (.r (.l (.l (.l (.l (.l .h)))))))
abbrev p131 : Pth := (.l (.l (.r (.l (.l (.l (.l .h)))))))
abbrev p132 : Pth := (.r (.l (.r (.l (.l (.l (.l .h)))))))
abbrev p133 : Pth := (.l (.r (.r (.l (.l (.l (.l .h)))))))
abbrev p134 : Pth := (.r (.r (.r (.l (.l (.l (.l .h)))))))
abbrev p135 : Pth := (.l (.l (.l (.r (.l (.l (.l .h)))))))
abbrev p136 : Pth := (.r (.l (.l (.r (.l (.l (.l .h)))))))
abbrev p137 : Pth := (.l (.r (.l (.r (.l (.l (.l .h)))))))
abbrev p138 : Pth := (.r (.r (.l (.r (.l (.l (.l .h)))))))
abbrev p139 : Pth := (.l (.l (.r (.r (.l (.l (.l .h)))))))
abbrev p140 : Pth := (.r (.l (.r (.r (.l (.l (.l .h)))))))
abbrev p141 : Pth := (.l (.r (.r (.r (.l (.l (.l .h)))))))
abbrev p142 : Pth := (.r (.r (.r (.r (.l (.l (.l .h)))))))
abbrev p143 : Pth := (.l (.l (.l (.l (.r (.l (.l .h)))))))
abbrev p144 : Pth := (.r (.l (.l (.l (.r (.l (.l .h)))))))
abbrev p145 : Pth := (.l (.r (.l (.l (.r (.l (.l .h)))))))
abbrev p146 : Pth := (.r (.r (.l (.l (.r (.l (.l .h)))))))
abbrev p147 : Pth := (.l (.l (.r (.l (.r (.l (.l .h)))))))
abbrev p148 : Pth := (.r (.l (.r (.l (.r (.l (.l .h)))))))
abbrev p149 : Pth := (.l (.r (.r (.l (.r (.l (.l .h)))))))
abbrev p150 : Pth := (.r (.r (.r (.l (.r (.l (.l .h)))))))
abbrev p151 : Pth := (.l (.l (.l (.r (.r (.l (.l .h)))))))
abbrev p152 : Pth := (.r (.l (.l (.r (.r (.l (.l .h)))))))
abbrev p153 : Pth := (.l (.r (.l (.r (.r (.l (.l .h)))))))
abbrev p154 : Pth := (.r (.r (.l (.r (.r (.l (.l .h)))))))
abbrev p155 : Pth := (.l (.l (.r (.r (.r (.l (.l .h)))))))
abbrev p156 : Pth := (.r (.l (.r (.r (.r (.l (.l .h)))))))
abbrev p157 : Pth := (.l (.r (.r (.r (.r (.l (.l .h)))))))
abbrev p158 : Pth := (.r (.r (.r (.r (.r (.l (.l .h)))))))
abbrev p159 : Pth := (.l (.l (.l (.l (.l (.r (.l .h)))))))
abbrev p160 : Pth := (.r (.l (.l (.l (.l (.r (.l .h)))))))
abbrev p161 : Pth := (.l (.r (.l (.l (.l (.r (.l .h)))))))
abbrev p162 : Pth := (.r (.r (.l (.l (.l (.r (.l .h)))))))
abbrev p163 : Pth := (.l (.l (.r (.l (.l (.r (.l .h)))))))
abbrev p164 : Pth := (.r (.l (.r (.l (.l (.r (.l .h)))))))
abbrev p165 : Pth := (.l (.r (.r (.l (.l (.r (.l .h)))))))
abbrev p166 : Pth := (.r (.r (.r (.l (.l (.r (.l .h)))))))
abbrev x0 : Opd := .t .h
abbrev x1 : Opd := .t (.l .h)
abbrev x2 : Opd := .t (.r .h)
abbrev x3 : Opd := .t (.l (.l .h))
abbrev x4 : Opd := .t (.r (.l .h))
abbrev x5 : Opd := .t (.l (.r .h))
abbrev x6 : Opd := .t (.r (.r .h))
abbrev x7 : Opd := .t (.l (.l (.l .h)))
abbrev x8 : Opd := .t (.r (.l (.l .h)))
abbrev x9 : Opd := .t (.l (.r (.l .h)))
abbrev x10 : Opd := .t (.r (.r (.l .h)))
abbrev x11 : Opd := .t (.l (.l (.r .h)))
abbrev x12 : Opd := .t (.r (.l (.r .h)))
abbrev x13 : Opd := .t (.l (.r (.r .h)))
abbrev x14 : Opd := .t (.r (.r (.r .h)))
abbrev x15 : Opd := .t (.l (.l (.l (.l .h))))
abbrev x16 : Opd := .t (.r (.l (.l (.l .h))))
abbrev x17 : Opd := .t (.l (.r (.l (.l .h))))
abbrev x18 : Opd := .t (.r (.r (.l (.l .h))))
abbrev x19 : Opd := .t (.l (.l (.r (.l .h))))
abbrev x20 : Opd := .t (.r (.l (.r (.l .h))))
abbrev x21 : Opd := .t (.l (.r (.r (.l .h))))
abbrev x22 : Opd := .t (.r (.r (.r (.l .h))))
abbrev x23 : Opd := .t (.l (.l (.l (.r .h))))
abbrev x24 : Opd := .t (.r (.l (.l (.r .h))))
abbrev x25 : Opd := .t (.l (.r (.l (.r .h))))
abbrev x26 : Opd := .t (.r (.r (.l (.r .h))))
abbrev x27 : Opd := .t (.l (.l (.r (.r .h))))
abbrev x28 : Opd := .t (.r (.l (.r (.r .h))))
abbrev x29 : Opd := .t (.l (.r (.r (.r .h))))
abbrev x30 : Opd := .t (.r (.r (.r (.r .h))))
abbrev x31 : Opd := .t (.l (.l (.l (.l (.l .h)))))
abbrev x32 : Opd := .t (.r (.l (.l (.l (.l .h)))))
abbrev x33 : Opd := .t (.l (.r (.l (.l (.l .h)))))
abbrev x34 : Opd := .t (.r (.r (.l (.l (.l .h)))))
abbrev x35 : Opd := .t (.l (.l (.r (.l (.l .h)))))
abbrev x36 : Opd := .t (.r (.l (.r (.l (.l .h)))))
abbrev x37 : Opd := .t (.l (.r (.r (.l (.l .h)))))
abbrev x38 : Opd := .t (.r (.r (.r (.l (.l .h)))))
abbrev x39 : Opd := .t (.l (.l (.l (.r (.l .h)))))
abbrev x40 : Opd := .t (.r (.l (.l (.r (.l .h)))))
abbrev x41 : Opd := .t (.l (.r (.l (.r (.l .h)))))
abbrev x42 : Opd := .t (.r (.r (.l (.r (.l .h)))))
abbrev x43 : Opd := .t (.l (.l (.r (.r (.l .h)))))
abbrev x44 : Opd := .t (.r (.l (.r (.r (.l .h)))))
abbrev x45 : Opd := .t (.l (.r (.r (.r (.l .h)))))
abbrev x46 : Opd := .t (.r (.r (.r (.r (.l .h)))))
abbrev x47 : Opd := .t (.l (.l (.l (.l (.r .h)))))
abbrev x48 : Opd := .t (.r (.l (.l (.l (.r .h)))))
abbrev x49 : Opd := .t (.l (.r (.l (.l (.r .h)))))
abbrev x50 : Opd := .t (.r (.r (.l (.l (.r .h)))))
abbrev x51 : Opd := .t (.l (.l (.r (.l (.r .h)))))
abbrev x52 : Opd := .t (.r (.l (.r (.l (.r .h)))))
abbrev x53 : Opd := .t (.l (.r (.r (.l (.r .h)))))
abbrev x54 : Opd := .t (.r (.r (.r (.l (.r .h)))))
abbrev x55 : Opd := .t (.l (.l (.l (.r (.r .h)))))
abbrev x56 : Opd := .t (.r (.l (.l (.r (.r .h)))))
abbrev x57 : Opd := .t (.l (.r (.l (.r (.r .h)))))
abbrev x58 : Opd := .t (.r (.r (.l (.r (.r .h)))))
abbrev x59 : Opd := .t (.l (.l (.r (.r (.r .h)))))
abbrev x60 : Opd := .t (.r (.l (.r (.r (.r .h)))))
abbrev x61 : Opd := .t (.l (.r (.r (.r (.r .h)))))
abbrev x62 : Opd := .t (.r (.r (.r (.r (.r .h)))))
abbrev x63 : Opd := .t (.l (.l (.l (.l (.l (.l .h))))))
abbrev x64 : Opd := .t (.r (.l (.l (.l (.l (.l .h))))))
abbrev x65 : Opd := .t (.l (.r (.l (.l (.l (.l .h))))))
abbrev x66 : Opd := .t (.r (.r (.l (.l (.l (.l .h))))))
abbrev x67 : Opd := .t (.l (.l (.r (.l (.l (.l .h))))))
abbrev x68 : Opd := .t (.r (.l (.r (.l (.l (.l .h))))))
abbrev x69 : Opd := .t (.l (.r (.r (.l (.l (.l .h))))))
abbrev x70 : Opd := .t (.r (.r (.r (.l (.l (.l .h))))))
abbrev x71 : Opd := .t (.l (.l (.l (.r (.l (.l .h))))))
abbrev x72 : Opd := .t (.r (.l (.l (.r (.l (.l .h))))))
abbrev x73 : Opd := .t (.l (.r (.l (.r (.l (.l .h))))))
abbrev x74 : Opd := .t (.r (.r (.l (.r (.l (.l .h))))))
abbrev x75 : Opd := .t (.l (.l (.r (.r (.l (.l .h))))))
abbrev x76 : Opd := .t (.r (.l (.r (.r (.l (.l .h))))))
abbrev x77 : Opd := .t (.l (.r (.r (.r (.l (.l .h))))))
abbrev x78 : Opd := .t (.r (.r (.r (.r (.l (.l .h))))))
abbrev x79 : Opd := .t (.l (.l (.l (.l (.r (.l .h))))))
abbrev x80 : Opd := .t (.r (.l (.l (.l (.r (.l .h))))))
abbrev x81 : Opd := .t (.l (.r (.l (.l (.r (.l .h))))))
abbrev x82 : Opd := .t (.r (.r (.l (.l (.r (.l .h))))))
abbrev x83 : Opd := .t (.l (.l (.r (.l (.r (.l .h))))))
abbrev x84 : Opd := .t (.r (.l (.r (.l (.r (.l .h))))))
abbrev x85 : Opd := .t (.l (.r (.r (.l (.r (.l .h))))))
abbrev x86 : Opd := .t (.r (.r (.r (.l (.r (.l .h))))))
abbrev x87 : Opd := .t (.l (.l (.l (.r (.r (.l .h))))))
abbrev x88 : Opd := .t (.r (.l (.l (.r (.r (.l .h))))))
abbrev x89 : Opd := .t (.l (.r (.l (.r (.r (.l .h))))))
abbrev x90 : Opd := .t (.r (.r (.l (.r (.r (.l .h))))))
abbrev x91 : Opd := .t (.l (.l (.r (.r (.r (.l .h))))))
abbrev x92 : Opd := .t (.r (.l (.r (.r (.r (.l .h))))))
abbrev x93 : Opd := .t (.l (.r (.r (.r (.r (.l .h))))))
abbrev x94 : Opd := .t (.r (.r (.r (.r (.r (.l .h))))))
abbrev x95 : Opd := .t (.l (.l (.l (.l (.l (.r .h))))))
abbrev x96 : Opd := .t (.r (.l (.l (.l (.l (.r .h))))))
abbrev x97 : Opd := .t (.l (.r (.l (.l (.l (.r .h))))))
abbrev x98 : Opd := .t (.r (.r (.l (.l (.l (.r .h))))))
abbrev x99 : Opd := .t (.l (.l (.r (.l (.l (.r .h))))))
abbrev x100 : Opd := .t (.r (.l (.r (.l (.l (.r .h))))))
abbrev x101 : Opd := .t (.l (.r (.r (.l (.l (.r .h))))))
abbrev x102 : Opd := .t (.r (.r (.r (.l (.l (.r .h))))))
abbrev x103 : Opd := .t (.l (.l (.l (.r (.l (.r .h))))))
abbrev x104 : Opd := .t (.r (.l (.l (.r (.l (.r .h))))))
abbrev x105 : Opd := .t (.l (.r (.l (.r (.l (.r .h))))))
abbrev x106 : Opd := .t (.r (.r (.l (.r (.l (.r .h))))))
abbrev x107 : Opd := .t (.l (.l (.r (.r (.l (.r .h))))))
abbrev x108 : Opd := .t (.r (.l (.r (.r (.l (.r .h))))))
abbrev x109 : Opd := .t (.l (.r (.r (.r (.l (.r .h))))))
abbrev x110 : Opd := .t (.r (.r (.r (.r (.l (.r .h))))))
abbrev x111 : Opd := .t (.l (.l (.l (.l (.r (.r .h))))))
abbrev x112 : Opd := .t (.r (.l (.l (.l (.r (.r .h))))))
abbrev x113 : Opd := .t (.l (.r (.l (.l (.r (.r .h))))))
abbrev x114 : Opd := .t (.r (.r (.l (.l (.r (.r .h))))))
abbrev x115 : Opd := .t (.l (.l (.r (.l (.r (.r .h))))))
abbrev x116 : Opd := .t (.r (.l (.r (.l (.r (.r .h))))))
abbrev x117 : Opd := .t (.l (.r (.r (.l (.r (.r .h))))))
abbrev x118 : Opd := .t (.r (.r (.r (.l (.r (.r .h))))))
abbrev x119 : Opd := .t (.l (.l (.l (.r (.r (.r .h))))))
abbrev x120 : Opd := .t (.r (.l (.l (.r (.r (.r .h))))))
abbrev x121 : Opd := .t (.l (.r (.l (.r (.r (.r .h))))))
abbrev x122 : Opd := .t (.r (.r (.l (.r (.r (.r .h))))))
abbrev x123 : Opd := .t (.l (.l (.r (.r (.r (.r .h))))))
abbrev x124 : Opd := .t (.r (.l (.r (.r (.r (.r .h))))))
abbrev x125 : Opd := .t (.l (.r (.r (.r (.r (.r .h))))))
abbrev x126 : Opd := .t (.r (.r (.r (.r (.r (.r .h))))))
abbrev x127 : Opd := .t (.l (.l (.l (.l (.l (.l (.l .h)))))))
abbrev x128 : Opd := .t (.r (.l (.l (.l (.l (.l (.l .h)))))))
abbrev x129 : Opd := .t (.l (.r (.l (.l (.l (.l (.l .h)))))))
abbrev x130 : Opd := .t (.r (.r (.l (.l (.l (.l (.l .h)))))))
abbrev x131 : Opd := .t (.l (.l (.r (.l (.l (.l (.l .h)))))))
abbrev x132 : Opd := .t (.r (.l (.r (.l (.l (.l (.l .h)))))))
abbrev x133 : Opd := .t (.l (.r (.r (.l (.l (.l (.l .h)))))))
abbrev x134 : Opd := .t (.r (.r (.r (.l (.l (.l (.l .h)))))))
abbrev x135 : Opd := .t (.l (.l (.l (.r (.l (.l (.l .h)))))))
abbrev x136 : Opd := .t (.r (.l (.l (.r (.l (.l (.l .h)))))))
abbrev x137 : Opd := .t (.l (.r (.l (.r (.l (.l (.l .h)))))))
abbrev x138 : Opd := .t (.r (.r (.l (.r (.l (.l (.l .h)))))))
abbrev x139 : Opd := .t (.l (.l (.r (.r (.l (.l (.l .h)))))))
abbrev x140 : Opd := .t (.r (.l (.r (.r (.l (.l (.l .h)))))))
abbrev x141 : Opd := .t (.l (.r (.r (.r (.l (.l (.l .h)))))))
abbrev x142 : Opd := .t (.r (.r (.r (.r (.l (.l (.l .h)))))))
abbrev x143 : Opd := .t (.l (.l (.l (.l (.r (.l (.l .h)))))))
abbrev x144 : Opd := .t (.r (.l (.l (.l (.r (.l (.l .h)))))))
abbrev x145 : Opd := .t (.l (.r (.l (.l (.r (.l (.l .h)))))))
abbrev x146 : Opd := .t (.r (.r (.l (.l (.r (.l (.l .h)))))))
abbrev x147 : Opd := .t (.l (.l (.r (.l (.r (.l (.l .h)))))))
abbrev x148 : Opd := .t (.r (.l (.r (.l (.r (.l (.l .h)))))))
abbrev x149 : Opd := .t (.l (.r (.r (.l (.r (.l (.l .h)))))))
abbrev x150 : Opd := .t (.r (.r (.r (.l (.r (.l (.l .h)))))))
abbrev x151 : Opd := .t (.l (.l (.l (.r (.r (.l (.l .h)))))))
abbrev x152 : Opd := .t (.r (.l (.l (.r (.r (.l (.l .h)))))))
abbrev x153 : Opd := .t (.l (.r (.l (.r (.r (.l (.l .h)))))))
abbrev x154 : Opd := .t (.r (.r (.l (.r (.r (.l (.l .h)))))))
abbrev x155 : Opd := .t (.l (.l (.r (.r (.r (.l (.l .h)))))))
abbrev x156 : Opd := .t (.r (.l (.r (.r (.r (.l (.l .h)))))))
abbrev x157 : Opd := .t (.l (.r (.r (.r (.r (.l (.l .h)))))))
abbrev x158 : Opd := .t (.r (.r (.r (.r (.r (.l (.l .h)))))))
abbrev x159 : Opd := .t (.l (.l (.l (.l (.l (.r (.l .h)))))))
abbrev x160 : Opd := .t (.r (.l (.l (.l (.l (.r (.l .h)))))))
abbrev x161 : Opd := .t (.l (.r (.l (.l (.l (.r (.l .h)))))))
abbrev x162 : Opd := .t (.r (.r (.l (.l (.l (.r (.l .h)))))))
abbrev x163 : Opd := .t (.l (.l (.r (.l (.l (.r (.l .h)))))))
abbrev x164 : Opd := .t (.r (.l (.r (.l (.l (.r (.l .h)))))))
abbrev x165 : Opd := .t (.l (.r (.r (.l (.l (.r (.l .h)))))))
abbrev x166 : Opd := .t (.r (.r (.r (.l (.l (.r (.l .h)))))))
abbrev d0 : Option Pth := some .h
abbrev d1 : Option Pth := some (.l .h)
abbrev d2 : Option Pth := some (.r .h)
abbrev d3 : Option Pth := some (.l (.l .h))
abbrev d4 : Option Pth := some (.r (.l .h))
abbrev d5 : Option Pth := some (.l (.r .h))
abbrev d6 : Option Pth := some (.r (.r .h))
abbrev d7 : Option Pth := some (.l (.l (.l .h)))
abbrev d8 : Option Pth := some (.r (.l (.l .h)))
abbrev d9 : Option Pth := some (.l (.r (.l .h)))
abbrev d10 : Option Pth := some (.r (.r (.l .h)))
abbrev d11 : Option Pth := some (.l (.l (.r .h)))
abbrev d12 : Option Pth := some (.r (.l (.r .h)))
abbrev d13 : Option Pth := some (.l (.r (.r .h)))
abbrev d14 : Option Pth := some (.r (.r (.r .h)))
abbrev d15 : Option Pth := some (.l (.l (.l (.l .h))))
abbrev d16 : Option Pth := some (.r (.l (.l (.l .h))))
abbrev d17 : Option Pth := some (.l (.r (.l (.l .h))))
abbrev d18 : Option Pth := some (.r (.r (.l (.l .h))))
abbrev d19 : Option Pth := some (.l (.l (.r (.l .h))))
abbrev d20 : Option Pth := some (.r (.l (.r (.l .h))))
abbrev d21 : Option Pth := some (.l (.r (.r (.l .h))))
abbrev d22 : Option Pth := some (.r (.r (.r (.l .h))))
abbrev d23 : Option Pth := some (.l (.l (.l (.r .h))))
abbrev d24 : Option Pth := some (.r (.l (.l (.r .h))))
abbrev d25 : Option Pth := some (.l (.r (.l (.r .h))))
abbrev d26 : Option Pth := some (.r (.r (.l (.r .h))))
abbrev d27 : Option Pth := some (.l (.l (.r (.r .h))))
abbrev d28 : Option Pth := some (.r (.l (.r (.r .h))))
abbrev d29 : Option Pth := some (.l (.r (.r (.r .h))))
abbrev d30 : Option Pth := some (.r (.r (.r (.r .h))))
abbrev d31 : Option Pth := some (.l (.l (.l (.l (.l .h)))))
abbrev d32 : Option Pth := some (.r (.l (.l (.l (.l .h)))))
abbrev d33 : Option Pth := some (.l (.r (.l (.l (.l .h)))))
abbrev d34 : Option Pth := some (.r (.r (.l (.l (.l .h)))))
abbrev d35 : Option Pth := some (.l (.l (.r (.l (.l .h)))))
abbrev d36 : Option Pth := some (.r (.l (.r (.l (.l .h)))))
abbrev d37 : Option Pth := some (.l (.r (.r (.l (.l .h)))))
abbrev d38 : Option Pth := some (.r (.r (.r (.l (.l .h)))))
abbrev d39 : Option Pth := some (.l (.l (.l (.r (.l .h)))))
abbrev d40 : Option Pth := some (.r (.l (.l (.r (.l .h)))))
abbrev d41 : Option Pth := some (.l (.r (.l (.r (.l .h)))))
abbrev d42 : Option Pth := some (.r (.r (.l (.r (.l .h)))))
abbrev d43 : Option Pth := some (.l (.l (.r (.r (.l .h)))))
abbrev d44 : Option Pth := some (.r (.l (.r (.r (.l .h)))))
abbrev d45 : Option Pth := some (.l (.r (.r (.r (.l .h)))))
abbrev d46 : Option Pth := some (.r (.r (.r (.r (.l .h)))))
abbrev d47 : Option Pth := some (.l (.l (.l (.l (.r .h)))))
abbrev d48 : Option Pth := some (.r (.l (.l (.l (.r .h)))))
abbrev d49 : Option Pth := some (.l (.r (.l (.l (.r .h)))))
abbrev d50 : Option Pth := some (.r (.r (.l (.l (.r .h)))))
abbrev d51 : Option Pth := some (.l (.l (.r (.l (.r .h)))))
abbrev d52 : Option Pth := some (.r (.l (.r (.l (.r .h)))))
abbrev d53 : Option Pth := some (.l (.r (.r (.l (.r .h)))))
abbrev d54 : Option Pth := some (.r (.r (.r (.l (.r .h)))))
abbrev d55 : Option Pth := some (.l (.l (.l (.r (.r .h)))))
abbrev d56 : Option Pth := some (.r (.l (.l (.r (.r .h)))))
abbrev d57 : Option Pth := some (.l (.r (.l (.r (.r .h)))))
abbrev d58 : Option Pth := some (.r (.r (.l (.r (.r .h)))))
abbrev d59 : Option Pth := some (.l (.l (.r (.r (.r .h)))))
abbrev d60 : Option Pth := some (.r (.l (.r (.r (.r .h)))))
abbrev d61 : Option Pth := some (.l (.r (.r (.r (.r .h)))))
abbrev d62 : Option Pth := some (.r (.r (.r (.r (.r .h)))))
abbrev d63 : Option Pth := some (.l (.l (.l (.l (.l (.l .h))))))
abbrev d64 : Option Pth := some (.r (.l (.l (.l (.l (.l .h))))))
abbrev d65 : Option Pth := some (.l (.r (.l (.l (.l (.l .h))))))
abbrev d66 : Option Pth := some (.r (.r (.l (.l (.l (.l .h))))))
abbrev d67 : Option Pth := some (.l (.l (.r (.l (.l (.l .h))))))
abbrev d68 : Option Pth := some (.r (.l (.r (.l (.l (.l .h))))))
abbrev d69 : Option Pth := some (.l (.r (.r (.l (.l (.l .h))))))
abbrev d70 : Option Pth := some (.r (.r (.r (.l (.l (.l .h))))))
abbrev d71 : Option Pth := some (.l (.l (.l (.r (.l (.l .h))))))
abbrev d72 : Option Pth := some (.r (.l (.l (.r (.l (.l .h))))))
abbrev d73 : Option Pth := some (.l (.r (.l (.r (.l (.l .h))))))
abbrev d74 : Option Pth := some (.r (.r (.l (.r (.l (.l .h))))))
abbrev d75 : Option Pth := some (.l (.l (.r (.r (.l (.l .h))))))
abbrev d76 : Option Pth := some (.r (.l (.r (.r (.l (.l .h))))))
abbrev d77 : Option Pth := some (.l (.r (.r (.r (.l (.l .h))))))
abbrev d78 : Option Pth := some (.r (.r (.r (.r (.l (.l .h))))))
abbrev d79 : Option Pth := some (.l (.l (.l (.l (.r (.l .h))))))
abbrev d80 : Option Pth := some (.r (.l (.l (.l (.r (.l .h))))))
abbrev d81 : Option Pth := some (.l (.r (.l (.l (.r (.l .h))))))
abbrev d82 : Option Pth := some (.r (.r (.l (.l (.r (.l .h))))))
abbrev d83 : Option Pth := some (.l (.l (.r (.l (.r (.l .h))))))
abbrev d84 : Option Pth := some (.r (.l (.r (.l (.r (.l .h))))))
abbrev d85 : Option Pth := some (.l (.r (.r (.l (.r (.l .h))))))
abbrev d86 : Option Pth := some (.r (.r (.r (.l (.r (.l .h))))))
abbrev d87 : Option Pth := some (.l (.l (.l (.r (.r (.l .h))))))
abbrev d88 : Option Pth := some (.r (.l (.l (.r (.r (.l .h))))))
abbrev d89 : Option Pth := some (.l (.r (.l (.r (.r (.l .h))))))
abbrev d90 : Option Pth := some (.r (.r (.l (.r (.r (.l .h))))))
abbrev d91 : Option Pth := some (.l (.l (.r (.r (.r (.l .h))))))
abbrev d92 : Option Pth := some (.r (.l (.r (.r (.r (.l .h))))))
abbrev d93 : Option Pth := some (.l (.r (.r (.r (.r (.l .h))))))
abbrev d94 : Option Pth := some (.r (.r (.r (.r (.r (.l .h))))))
abbrev d95 : Option Pth := some (.l (.l (.l (.l (.l (.r .h))))))
abbrev d96 : Option Pth := some (.r (.l (.l (.l (.l (.r .h))))))
abbrev d97 : Option Pth := some (.l (.r (.l (.l (.l (.r .h))))))
abbrev d98 : Option Pth := some (.r (.r (.l (.l (.l (.r .h))))))
abbrev d99 : Option Pth := some (.l (.l (.r (.l (.l (.r .h))))))
abbrev d100 : Option Pth := some (.r (.l (.r (.l (.l (.r .h))))))
abbrev d101 : Option Pth := some (.l (.r (.r (.l (.l (.r .h))))))
abbrev d102 : Option Pth := some (.r (.r (.r (.l (.l (.r .h))))))
abbrev d103 : Option Pth := some (.l (.l (.l (.r (.l (.r .h))))))
abbrev d104 : Option Pth := some (.r (.l (.l (.r (.l (.r .h))))))
abbrev d105 : Option Pth := some (.l (.r (.l (.r (.l (.r .h))))))
abbrev d106 : Option Pth := some (.r (.r (.l (.r (.l (.r .h))))))
abbrev d107 : Option Pth := some (.l (.l (.r (.r (.l (.r .h))))))
abbrev d108 : Option Pth := some (.r (.l (.r (.r (.l (.r .h))))))
abbrev d109 : Option Pth := some (.l (.r (.r (.r (.l (.r .h))))))
abbrev d110 : Option Pth := some (.r (.r (.r (.r (.l (.r .h))))))
abbrev d111 : Option Pth := some (.l (.l (.l (.l (.r (.r .h))))))
abbrev d112 : Option Pth := some (.r (.l (.l (.l (.r (.r .h))))))
abbrev d113 : Option Pth := some (.l (.r (.l (.l (.r (.r .h))))))
abbrev d114 : Option Pth := some (.r (.r (.l (.l (.r (.r .h))))))
abbrev d115 : Option Pth := some (.l (.l (.r (.l (.r (.r .h))))))
abbrev d116 : Option Pth := some (.r (.l (.r (.l (.r (.r .h))))))
abbrev d117 : Option Pth := some (.l (.r (.r (.l (.r (.r .h))))))
abbrev d118 : Option Pth := some (.r (.r (.r (.l (.r (.r .h))))))
abbrev d119 : Option Pth := some (.l (.l (.l (.r (.r (.r .h))))))
abbrev d120 : Option Pth := some (.r (.l (.l (.r (.r (.r .h))))))
abbrev d121 : Option Pth := some (.l (.r (.l (.r (.r (.r .h))))))
abbrev d122 : Option Pth := some (.r (.r (.l (.r (.r (.r .h))))))
abbrev d123 : Option Pth := some (.l (.l (.r (.r (.r (.r .h))))))
abbrev d124 : Option Pth := some (.r (.l (.r (.r (.r (.r .h))))))
abbrev d125 : Option Pth := some (.l (.r (.r (.r (.r (.r .h))))))
abbrev d126 : Option Pth := some (.r (.r (.r (.r (.r (.r .h))))))
abbrev d127 : Option Pth := some (.l (.l (.l (.l (.l (.l (.l .h)))))))
abbrev d128 : Option Pth := some (.r (.l (.l (.l (.l (.l (.l .h)))))))
abbrev d129 : Option Pth := some (.l (.r (.l (.l (.l (.l (.l .h)))))))
abbrev d130 : Option Pth := some (.r (.r (.l (.l (.l (.l (.l .h)))))))
abbrev d131 : Option Pth := some (.l (.l (.r (.l (.l (.l (.l .h)))))))
abbrev d132 : Option Pth := some (.r (.l (.r (.l (.l (.l (.l .h)))))))
abbrev d133 : Option Pth := some (.l (.r (.r (.l (.l (.l (.l .h)))))))
abbrev d134 : Option Pth := some (.r (.r (.r (.l (.l (.l (.l .h)))))))
abbrev d135 : Option Pth := some (.l (.l (.l (.r (.l (.l (.l .h)))))))
abbrev d136 : Option Pth := some (.r (.l (.l (.r (.l (.l (.l .h)))))))
abbrev d137 : Option Pth := some (.l (.r (.l (.r (.l (.l (.l .h)))))))
abbrev d138 : Option Pth := some (.r (.r (.l (.r (.l (.l (.l .h)))))))
abbrev d139 : Option Pth := some (.l (.l (.r (.r (.l (.l (.l .h)))))))
abbrev d140 : Option Pth := some (.r (.l (.r (.r (.l (.l (.l .h)))))))
abbrev d141 : Option Pth := some (.l (.r (.r (.r (.l (.l (.l .h)))))))
abbrev d142 : Option Pth := some (.r (.r (.r (.r (.l (.l (.l .h)))))))
abbrev d143 : Option Pth := some (.l (.l (.l (.l (.r (.l (.l .h)))))))
abbrev d144 : Option Pth := some (.r (.l (.l (.l (.r (.l (.l .h)))))))
abbrev d145 : Option Pth := some (.l (.r (.l (.l (.r (.l (.l .h)))))))
abbrev d146 : Option Pth := some (.r (.r (.l (.l (.r (.l (.l .h)))))))
abbrev d147 : Option Pth := some (.l (.l (.r (.l (.r (.l (.l .h)))))))
abbrev d148 : Option Pth := some (.r (.l (.r (.l (.r (.l (.l .h)))))))
abbrev d149 : Option Pth := some (.l (.r (.r (.l (.r (.l (.l .h)))))))
abbrev d150 : Option Pth := some (.r (.r (.r (.l (.r (.l (.l .h)))))))
abbrev d151 : Option Pth := some (.l (.l (.l (.r (.r (.l (.l .h)))))))
abbrev d152 : Option Pth := some (.r (.l (.l (.r (.r (.l (.l .h)))))))
abbrev d153 : Option Pth := some (.l (.r (.l (.r (.r (.l (.l .h)))))))
abbrev d154 : Option Pth := some (.r (.r (.l (.r (.r (.l (.l .h)))))))
abbrev d155 : Option Pth := some (.l (.l (.r (.r (.r (.l (.l .h)))))))
abbrev d156 : Option Pth := some (.r (.l (.r (.r (.r (.l (.l .h)))))))
abbrev d157 : Option Pth := some (.l (.r (.r (.r (.r (.l (.l .h)))))))
abbrev d158 : Option Pth := some (.r (.r (.r (.r (.r (.l (.l .h)))))))
abbrev d159 : Option Pth := some (.l (.l (.l (.l (.l (.r (.l .h)))))))
abbrev d160 : Option Pth := some (.r (.l (.l (.l (.l (.r (.l .h)))))))
abbrev d161 : Option Pth := some (.l (.r (.l (.l (.l (.r (.l .h)))))))
abbrev d162 : Option Pth := some (.r (.r (.l (.l (.l (.r (.l .h)))))))
abbrev d163 : Option Pth := some (.l (.l (.r (.l (.l (.r (.l .h)))))))
abbrev d164 : Option Pth := some (.r (.l (.r (.l (.l (.r (.l .h)))))))
abbrev d165 : Option Pth := some (.l (.r (.r (.l (.l (.r (.l .h)))))))
abbrev d166 : Option Pth := some (.r (.r (.r (.l (.l (.r (.l .h)))))))
abbrev n_entaillaw13_RoleTells : Nat := 3
abbrev n_entaillaw13_awake : Nat := 5
abbrev n_role_Parse : Nat := 9
abbrev n_line_Lines : Nat := 20
abbrev n_strings_Count : Nat := 33
abbrev n_unicode_utf8_RuneCountInString : Nat := 49
abbrev n_internal_bytealg_CountString : Nat := 50
abbrev n_strings_Index : Nat := 51
abbrev n_internal_stringslite_Index : Nat := 68
abbrev n_internal_stringslite_IndexByte : Nat := 72
abbrev n_internal_bytealg_IndexByteString : Nat := 88
abbrev n_internal_bytealg_IndexString : Nat := 83
abbrev n_internal_bytealg_Cutover : Nat := 84
abbrev n_internal_bytealg_IndexRabinKarp_string : Nat := 85
abbrev n_strings_SplitSeq : Nat := 34
abbrev n_strings_splitSeq : Nat := 52
abbrev n_strings_splitSeq_1 : Nat := 69
abbrev n_unicode_utf8_DecodeRuneInString : Nat := 70
abbrev n_line_bare : Nat := 35
abbrev n_strings_TrimSuffix : Nat := 53
abbrev n_internal_stringslite_TrimSuffix : Nat := 71
abbrev n_internal_stringslite_HasSuffix : Nat := 87
abbrev n_line_wrong : Nat := 36
abbrev n_line_words : Nat := 37
abbrev n_strings_Contains : Nat := 54
abbrev n_strings_IndexByte : Nat := 55
abbrev n_role_Fact : Nat := 6
abbrev n_role_formOf : Nat := 16
abbrev n__role_form_fill : Nat := 17
abbrev n_role_number : Nat := 31
abbrev n_strings_Trim : Nat := 45
abbrev n_strings_trimRightByte : Nat := 60
abbrev n_strings_trimLeftByte : Nat := 59
abbrev n_strings_makeASCIISet : Nat := 61
abbrev n_strings_trimRightASCII : Nat := 63
abbrev n_strings_asciiSet_contains : Nat := 75
abbrev n_strings_trimLeftASCII : Nat := 62
abbrev n_strings_trimRightUnicode : Nat := 65
abbrev n_strings_trimLeftUnicode : Nat := 64
abbrev n_strconv_Atoi : Nat := 46
abbrev n_internal_strconv_Atoi : Nat := 66
abbrev n_internal_strconv_ParseInt : Nat := 78
abbrev n_strconv_toError : Nat := 67
abbrev n_strconv_syntaxError : Nat := 79
abbrev n_strconv_rangeError : Nat := 80
abbrev n_strconv_baseError : Nat := 81
abbrev n_strconv_bitSizeError : Nat := 82
abbrev n_atom_Name : Nat := 32
abbrev n_atom_first : Nat := 47
abbrev n_atom_plain : Nat := 48
abbrev n_role_Text : Nat := 13
abbrev n_role_told : Nat := 24
abbrev n_role_keyword : Nat := 41
abbrev n_strconv_Itoa : Nat := 42
abbrev n_line_Join : Nat := 43
abbrev n_strings_Join : Nat := 58
abbrev n_strings_Builder_WriteString : Nat := 23
abbrev n_strings_Builder_copyCheck : Nat := 40
abbrev n_internal_abi_NoEscape : Nat := 56
abbrev n_strings_Builder_Len : Nat := 25
abbrev n_strings_Builder_String : Nat := 26
abbrev n_slices_EqualFunc_api_Fact_api_Fact_api_Fact_api_Fact : Nat := 27
abbrev n_role_same : Nat := 28
abbrev n_slices_Equal_string_string : Nat := 44
abbrev n_entailref13_Fact : Nat := 7
abbrev n_entailref13_words : Nat := 18
abbrev n_entailref13_number : Nat := 19
abbrev n_entailref1_Name : Nat := 15
abbrev n_entailref1_alnum : Nat := 30
abbrev n_entaillaw13_SameAt : Nat := 8
abbrev n_entailref13_SameFacts : Nat := 14
abbrev n_entailref1_SameTexts : Nat := 29
abbrev n_entailref13_Parse : Nat := 10
abbrev n_entailref1_Lines : Nat := 21
abbrev n_entailref1_words : Nat := 38
abbrev n_entaillaw12_Tame : Nat := 11
abbrev n_entaillaw13_File : Nat := 12
abbrev n_entaillaw13_Line : Nat := 22
abbrev n_entaillaw1_Nm : Nat := 39
abbrev ty_int : Nat := 3
abbrev ty_uint8 : Nat := 5
abbrev ty_string : Nat := 9
abbrev ty_api_Line : Nat := 25
abbrev ty_api_Word : Nat := 28
abbrev ty_api_Fact : Nat := 31
abbrev ty_api_Errno : Nat := 32
abbrev ty_role_form : Nat := 53
abbrev ty__api_Line : Nat := 61
abbrev ty_strings_Builder : Nat := 69
abbrev ty__9_string : Nat := 97
abbrev ty_strings_asciiSet : Nat := 101
abbrev ty_strconv_Error : Nat := 112
abbrev ty_p_strconv_NumError : Nat := 115
abbrev g_internal_bytealg_MaxLen : Nat := 0
end Go.Fw.Ro
end
