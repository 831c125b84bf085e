import Derived.Test.YtfphpjinimfhfaaVMBig
/-! The machine of values over literal code, as a condition that unfolds by itself up to the next thing that is not known. -/
namespace Go.Proofs.Ytfphpjinimfhfaa.VM
set_option linter.unusedSimpArgs false
set_option linter.unusedVariables false
set_option linter.unusedSectionVars false
open Go.RowKit
variable [Glob]

def forceL : List AV → (List AV → Prop) → Prop
  | [], K => K []
  | x :: l, K => forceL l fun m => K (x :: m)
def forceV (v : AV) (K : AV → Prop) : Prop := match v with
  | .undef => K .undef
  | .bool b => K (.bool b)
  | .int k n => K (.int k n)
  | .str s => K (.str s)
  | .nul => K .nul
  | .ptr n o => K (.ptr n o)
  | .cptr cs o => K (.cptr cs o)
  | .nils => K .nils
  | .lst xs t => K (.lst xs t)
  | .hnd a b c d => K (.hnd a b c d)
  | .func a b c => K (.func a b c)
  | .nilFunc => K .nilFunc
  | .iface t v => K (.iface t v)
  | .nilIface => K .nilIface
  | .agg cs => forceL cs fun cs => K (.agg cs)
  | .tuple vs => forceL vs fun vs => K (.tuple vs)
  | .iter n => K (.iter n)
def forceLV : List AV → (List AV → Prop) → Prop
  | [], K => K []
  | x :: l, K => forceV x fun x => forceLV l fun m => K (x :: m)
/-- Lists too. -/
def forceD (v : AV) (K : AV → Prop) : Prop := match v with
  | .lst xs t => forceLV xs fun xs => K (.lst xs t)
  | v => forceV v K
def putF : List AV → Nat → AV → (List AV → Prop) → Prop
  | [], _, _, K => K []
  | _ :: l, 0, v, K => K (v :: l)
  | x :: l, n + 1, v, K => putF l n v fun m => K (x :: m)
def putO (e : List AV) (d : Option Tmp) (v : AV) (K : List AV → Prop) : Prop := match d with
  | some d => putF e d v K
  | none => K e

def getF : List AV → Nat → (AV → Prop) → Prop
  | [], _, K => K .undef
  | v :: _, 0, K => K v
  | _ :: l, n + 1, K => getF l n K
def evF (e : List AV) (x : Operand) (K : AV → Prop) : Prop := match x with
  | .tmp t => getF e t K
  | .const v => forceV (ofValue v) K
  | .func g => K (.func (.func g) [] [])
  | .global g => forceV (Glob.gl g) K
def evsF (e : List AV) : List Operand → (List AV → Prop) → Prop
  | [], K => K []
  | x :: l, K => evF e x fun v => evsF e l fun m => K (v :: m)
def partsF (e : List AV) : List (Nat × Operand) → (List (Nat × AV) → Prop) → Prop
  | [], K => K []
  | (i, x) :: l, K => evF e x fun v => partsF e l fun m => K ((i, v) :: m)

theorem forceL_iff : ∀ {l : List AV} {K : List AV → Prop}, forceL l K ↔ K l
  | [], K => Iff.rfl
  | x :: l, K => forceL_iff (l := l)
theorem forceV_iff {v : AV} {K : AV → Prop} : forceV v K ↔ K v := by cases v <;> first | exact Iff.rfl | exact forceL_iff
theorem forceLV_iff : ∀ {l : List AV} {K : List AV → Prop}, forceLV l K ↔ K l
  | [], K => Iff.rfl
  | x :: l, K => forceV_iff.trans (forceLV_iff (l := l))
theorem forceD_iff {v : AV} {K : AV → Prop} : forceD v K ↔ K v := by cases v <;> first | exact Iff.rfl | exact forceLV_iff | exact forceL_iff
theorem getF_iff : ∀ {l : List AV} {n : Nat} {K : AV → Prop}, getF l n K ↔ K (l.getD n .undef)
  | [], n, K => by simp [getF]
  | v :: l, 0, K => Iff.rfl
  | v :: l, n + 1, K => by
    have := getF_iff (l := l) (n := n) (K := K)
    simpa [getF, List.getD] using this
theorem evF_iff {e : List AV} {x : Operand} {K : AV → Prop} : evF e x K ↔ K (evA e x) := by
  cases x with
  | tmp t => exact getF_iff
  | const v => exact forceV_iff
  | func g => exact Iff.rfl
  | global g => exact forceV_iff
theorem evsF_iff {e : List AV} : ∀ {l : List Operand} {K : List AV → Prop}, evsF e l K ↔ K (l.map (evA e))
  | [], K => Iff.rfl
  | x :: l, K => by
    unfold evsF
    rw [evF_iff, evsF_iff]; rfl
theorem partsF_iff {e : List AV} : ∀ {l : List (Nat × Operand)} {K : List (Nat × AV) → Prop}, partsF e l K ↔ K (l.map fun p => (p.1, evA e p.2))
  | [], K => Iff.rfl
  | (i, x) :: l, K => by
    unfold partsF
    rw [evF_iff, partsF_iff]; rfl
theorem putF_iff : ∀ {l : List AV} {n : Nat} {v : AV} {K : List AV → Prop}, putF l n v K ↔ K (l.set n v)
  | [], n, v, K => Iff.rfl
  | x :: l, 0, v, K => Iff.rfl
  | x :: l, n + 1, v, K => putF_iff (l := l)
theorem putO_iff {e : List AV} {d : Option Tmp} {v : AV} {K : List AV → Prop} : putO e d v K ↔ K (putA e d v) := by
  cases d with
  | none => exact Iff.rfl
  | some d => exact putF_iff

section
variable (P : Program) (C : Cfg) (f : FuncId)

/-- A call comes back, and so. -/
@[irreducible] def CallQ (f : FuncId) (args : List AV) (S : St) (Q : AV → St → Prop) : Prop := ∃ v S', CallE P C f args S (.ret v) S' ∧ Q v S'
/-- .. or panics, and so. -/
@[irreducible] def CallP (f : FuncId) (args : List AV) (S : St) (Q PQ : AV → St → Prop) : Prop := ∃ r S', CallE P C f args S r S' ∧ (match r with | .ret v => Q v S' | .panic v => PQ v S')
/-- Code comes to an end, and so. -/
@[irreducible] def CodeQ (c : Code) (e : List AV) (S : St) (Q : Out → List AV → St → Prop) : Prop := ∃ out e' S', CodeE P C f c e S out e' S' ∧ Q out e' S'

def eqFieldsF (cs ds : List AV) : List Field → Option Bool
  | [] => some true
  | fd :: fs =>
    if fd.name = "_" then none else
    match cs[fd.offset]?, ds[fd.offset]? with
    | some a, some b => (match eqLeaf (P.underlying fd.type) a b, eqFieldsF cs ds fs with
      | some r, some q => some (r && q)
      | _, _ => none)
    | _, _ => none

def eqF (t : TypeId) (x y : AV) : Option Bool :=
  match P.underlying t, x, y with
  | some (.struct fs), .agg a, .agg b => if P.stoodInHeld t || P.eqGuardType P.depth t then none else eqFieldsF P a b fs.toList
  | d, a, b => eqLeaf d a b
def binF (op : BinOp) (t : TypeId) (x y : AV) (xc yc : Bool) (K : AV → Prop) : Prop :=
  match op, x, y with
  | .eql, .agg a, .agg b => (match eqF P t (.agg a) (.agg b) with | some r => ∀ c, c = r → K (.bool c) | none => False)
  | .neq, .agg a, .agg b => (match eqF P t (.agg a) (.agg b) with | some r => ∀ c, c = (!r) → K (.bool c) | none => False)
  | .shr, .int k a, .int _ b => 0 ≤ b ∧ K (.int k (a.fdiv (2 ^ min b.toNat k.bits)))
  | .shl, .int k a, .int _ b => 0 ≤ b ∧ K (.int k (k.wrap (a * 2 ^ min b.toNat k.bits)))
  | .quo, .int k a, .int j b => (if k = j then b ≠ 0 ∧ K (.int k (k.wrap (a.tdiv b))) else False)
  | .rem, .int k a, .int j b => (if k = j then b ≠ 0 ∧ K (.int k (a.tmod b)) else False)
  | .add, .str a, .str b => a.length + b.length ≤ 140737488355328 ∧ K (.str (a ++ b))
  | op, x, y => (match binA P op t x y xc yc with
    | some (.bool b) => ∀ c, c = b → K (.bool c)
    | some v => forceV v K
    | none => False)

/-- A part that was read. -/
def partF (ag : Bool) (r : Option AV) (K : AV → Prop) : Prop := match r with
  | some v => (match ag with
    | true => forceV v K
    | false => K v)
  | none => False
def stepF (e : List AV) (S : St) (o : Oper) (K : AV → St → Prop) : Prop :=
  match o.op with
  | .move x => evF e x fun v => K v S
  | .assign x => evF e x fun v => K v S
  | .binOp op t x y _ => binF P op t (evA e x) (evA e y) (isConstA x) (isConstA y) fun v => K v S
  | .unOp op _ x => (match unA op (evA e x) with | some v => forceV v fun v => K v S | none => False)
  | .pick c a b => (match evA e c with
    | .bool true => evF e a fun v => K v S
    | .bool false => evF e b fun v => K v S
    | _ => False)
  | .load t a => (match szA P t, isAggA P t with
    | some s, some ag => (match evA e a with
      | .ptr n off => ∃ cs, S.cells n = some cs ∧ partF ag (partA ag s cs off) fun v => K v S
      | .cptr cs off => partF ag (partA ag s cs off) fun v => K v S
      | _ => False)
    | _, _ => False)
  | .store t a x => (match evA e a with
    | .ptr n off => (match szA P t with
      | some s => evF e x fun v => ∃ cs cs', S.cells n = some cs ∧ (if v.cells.length = s ∧ v.cells.all AV.leafOk = true ∧ off + s ≤ cs.length then some (setsA cs off v.cells) else none) = some cs' ∧ K (.tuple []) (S.set n (some (.cells cs')))
      | _ => False)
    | _ => False)
  | .nilCheck x => (match evA e x with
    | .ptr n off => K (.ptr n off) S
    | .cptr cs off => K (.cptr cs off) S
    | .func (.func g) a b => K (.func (.func g) a b) S
    | _ => False)
  | .fieldAddr t x i => (match fieldsA P t i with
    | some ⟨_, ty, off', _, _, _, _⟩ => (match szA P ty with
      | some s => (if s = 0 then False else match evA e x with
        | .ptr n off => K (.ptr n (off + off')) S
        | .cptr cs off => K (.cptr cs (off + off')) S
        | _ => False)
      | none => False)
    | none => False)
  | .field t x i => (match fieldsA P t i with
    | some ⟨_, ty, off, _, _, _, _⟩ => (match szA P ty, isAggA P ty with
      | some s, some ag => (match evA e x with
        | .agg cs => partF ag (partA ag s cs off) fun v => K v S
        | _ => False)
      | _, _ => False)
    | none => False)
  | .build t parts => partsF e parts.toList fun ps => (match buildA P t ps with | some v => forceV v fun v => K v S | none => False)
  | .makeInterface t x => (match P.underlying t with
    | some (.interface _) => False
    | some _ => evF e x fun v => K (.iface t v) S
    | none => False)
  | .makeFunc fn a b => evsF e a.toList fun a => evsF e b.toList fun b => K (.func fn a b) S
  | .extract t i => (match evA e t with
    | .tuple vs => (match vs[i]? with | some v => K v S | none => False)
    | _ => False)
  | .indexAddr t x i => (match evA e x, evA e i with
    | .lst xs u, .int k j => (match P.underlying t with
      | some (.slice el) => (match szA P el with
        | some s => 0 ≤ j ∧ ∃ v, xs[j.toNat]? = some v ∧ v.cells.length = s ∧ forceL v.cells fun cs => K (.cptr cs 0) S
        | none => False)
      | _ => False)
    | .hnd n off len s', .int k j => (match P.underlying t with
      | some (.slice el) => (match szA P el with
        | some s => (if s' = s then 0 ≤ j ∧ j < len ∧ K (.ptr n (off + j.toNat * s)) S else False)
        | none => False)
      | _ => False)
    | .cptr cs off, .int k j => (match P.underlying t with
      | some (.array len el) => (match szA P el with
        | some s => 0 ≤ j ∧ j < len ∧ K (.cptr cs (off + j.toNat * s)) S
        | none => False)
      | _ => False)
    | .ptr n off, .int k j => (match P.underlying t with
      | some (.array len el) => (match szA P el with
        | some s => 0 ≤ j ∧ j < len ∧ K (.ptr n (off + j.toNat * s)) S
        | none => False)
      | _ => False)
    | _, _ => False)
  | .index t x i => (match P.underlying t, evA e x, evA e i with
    | some .string, .str s, .int _ j => 0 ≤ j ∧ ∃ b, s[j.toNat]? = some b ∧ K (.int .u8 b.toNat) S
    | _, x, i => (match indexA P t x i with | some v => forceV v fun v => K v S | none => False))
  | .slice t x lo hi mx => ∃ v, sliceA P t (evA e x) (lo.map (evA e)) (hi.map (evA e)) (mx.map (evA e)) = some v ∧ K v S
  | .makeSlice t l c => ∃ v S1, makeSliceA P S t (evA e l) (evA e c) = some (v, S1) ∧ K v S1
  | .convert s d x => (match evA e x with
    | .lst xs t => ∃ v, convertA P S s d (.lst xs t) = some v ∧ K v S
    | .hnd a b c h => if s = d then False else ∃ v, convertA P S s d (.hnd a b c h) = some v ∧ K v S
    | x => (match convertA P S s d x with | some v => forceV v fun v => K v S | none => False))
  | .next it true => ∃ v S1, nextA S (evA e it) = some (v, S1) ∧ K v S1
  | .buildSlice t len parts => partsF e parts.toList fun ps => (match buildSliceA P C f S t len ps with
    | some (v, S1) => forceD v fun v => K v S1
    | none => False)
  | .box _ x => (match evA e x with
    | .undef => False
    | .tuple _ => False
    | _ => evF e x fun v => if C.ro f o.dst = true then forceL v.cells fun cs => K (.cptr cs 0) S else forceL v.cells fun cs => K (.ptr S.next 0) (S.new (.cells cs)))
  | .alloc t => (match zeroA P t with
    | some z => forceL z.cells fun cs => if C.own t = true then K (.ptr S.next 0) (S.new (.own t cs)) else K (.ptr S.next 0) (S.new (.cells cs))
    | none => False)
  | .range t x => (match P.underlying t, evA e x with
    | some .string, .str s => K (.iter S.next) (S.new (.iter s 0))
    | _, _ => False)
  | .call c => (match c.callee with
    | .value g => (match evA e g with
      | .func (.func h) a b => evsF e c.args.toList fun args => forceL (a ++ args ++ b) fun args => CallQ P C h args S K
      | _ => False)
    | .builtin .append => evsF e c.args.toList fun args => ∃ v S1, builtinA P C f .append c.argTypes args S = some (.ret v, S1) ∧ K v S1
    | .builtin .copy => evsF e c.args.toList fun args => ∃ v S1, builtinA P C f .copy c.argTypes args S = some (.ret v, S1) ∧ K v S1
    | .builtin .len => (match builtinA P C f .len c.argTypes (c.args.toList.map (evA e)) S with | some (.ret v, _) => forceV v fun v => K v S | _ => False)
    | .builtin .cap => evsF e c.args.toList fun args => (match args with
      | [x] => (match c.argTypes[0]? with
        | some t => (match P.underlying t, x with
          | some (.slice _), .nils => K (.int .i64 0) S
          | some (.slice _), .lst xs .full => K (.int .i64 xs.length) S
          | _, _ => False)
        | none => False)
      | _ => False)
    | .builtin .min => (match builtinA P C f .min c.argTypes (c.args.toList.map (evA e)) S with | some (.ret v, _) => forceV v fun v => K v S | _ => False)
    | .builtin .max => (match builtinA P C f .max c.argTypes (c.args.toList.map (evA e)) S with | some (.ret v, _) => forceV v fun v => K v S | _ => False)
    | _ => False)
  | _ => False

def wantF (ops : Array Oper) (e : List AV) (o : Oper) (K1 K2 : Prop) : Prop := match o.guard with
  | none => K1
  | some (j, w) => match ops[j]? with
    | some q => match q.dst with
      | some d => match e[d]? with
        | some (.bool b) => (match b, w with | true, true => K1 | false, false => K1 | true, false => K2 | false, true => K2)
        | some (.tuple []) => K2
        | _ => False
      | none => False
    | none => False
/-- What must read the same again. -/
def stabsF (ops : Array Oper) (e : List AV) (S : St) : List Nat → Prop → Prop
  | [], K => K
  | r :: rs, K => StabOk P C (fun _ _ _ => none) f ops e S r ∧ stabsF ops e S rs K
/-- A step that may panic. -/
def stepP (e : List AV) (S : St) (o : Oper) (K PK : AV → St → Prop) : Prop := match o.op with
  | .panic x => (match evA e x with | .iface t v => PK (.iface t v) S | _ => False)
  | .call ⟨.value g, args, _⟩ => (match C.pan f with
    | false => stepF P C f e S o K
    | true => (match evA e g with
      | .func (.func h) a b => evsF e args.toList fun args => forceL (a ++ args ++ b) fun args => CallP P C h args S K PK
      | _ => False))
  | _ => stepF P C f e S o K
/-- What runs and goes on (written with the recursor itself: the kernel and the elaborator then go the same way). -/
abbrev RF := List AV → St → (List AV → St → Prop) → (AV → List AV → St → Prop) → Prop
def rCons (ops : Array Oper) (st : List (Nat × List Nat)) (pan : Nat → Nat → Bool) (i : Nat) (l : List Nat) (rl : RF) : RF := fun e S K PQ => match ops[i]? with
    | some o => wantF ops e o (stepP P C f e S o (fun v S1 => stabsF P C f ops e S1 ((st.lookup i).getD []) (putO e o.dst v fun e1 => rl e1 S1 K PQ)) (fun v S1 => match l.all (pan i) with | true => PQ v e S1 | false => False)) (putO e o.dst (.tuple []) fun e1 => rl e1 S K PQ)
    | none => False
noncomputable def runF (ops : Array Oper) (st : List (Nat × List Nat)) (pan : Nat → Nat → Bool) (l : List Nat) : RF :=
  @List.rec Nat (fun _ => RF) (fun e S K _ => K e S) (fun i l rl => rCons P C f ops st pan i l rl) l
abbrev WF := List AV → St → (Out → List AV → St → Prop) → Prop
def seqK (rb : WF) (Q : Out → List AV → St → Prop) : Out → List AV → St → Prop := fun out e1 S1 => match out with
    | .normal => rb e1 S1 Q
    | o => Q o e1 S1
def blockK (id : Nat) (Q : Out → List AV → St → Prop) : Out → List AV → St → Prop := fun out e1 S1 => match out with
    | .exit j => if j = id then Q .normal e1 S1 else Q (.exit j) e1 S1
    | o => Q o e1 S1
def wSkip : WF := fun e S Q => Q .normal e S
noncomputable def wRegion (ops : Array Oper) (draw : Bool) : WF := fun e S Q => match draw with
  | false => runF P C f ops [] (fun _ _ => true) (List.range ops.size) e S (Q .normal) (fun v => Q (.panic v))
  | true => ∃ l st, regOk ops = true ∧ canon ops = l ∧ (l.all fun i => stabOf ops i == (st.lookup i).getD []) = true ∧ runF P C f ops st (anc ops) l e S (Q .normal) (fun v => Q (.panic v))
def wSeq (ra rb : WF) : WF := fun e S Q => ra e S (seqK rb Q)
def wCond (c : Operand) (ra rb : WF) : WF := fun e S Q => match evA e c with
    | .bool true => ra e S Q
    | .bool false => rb e S Q
    | _ => False
def wBlock (id : Nat) (rb : WF) : WF := fun e S Q => rb e S (blockK id Q)
def wExit (i : Nat) : WF := fun e S Q => Q (.exit i) e S
def wRet : WF := fun e S Q => Q .ret e S
noncomputable def wpF (c : Code) : WF :=
  @Code.rec (fun _ => WF) wSkip (fun _ ops draw => wRegion P C f ops draw) (fun _ _ ra rb => wSeq ra rb) (fun c _ _ ra rb => wCond c ra rb) (fun id _ rb => wBlock id rb)
    (fun b _ e S Q => CodeQ P C f (.loop b) e S Q) (fun g ps a b _ _ e S Q => CodeQ P C f (.rangeFunc g ps a b) e S Q) (fun i => wExit i) (fun b _ e S Q => CodeQ P C f (.scope b) e S Q) (fun _ => wSkip)
    (fun l e S Q => CodeQ P C f (.goto l) e S Q) wRet (fun y e S Q => CodeQ P C f (.refuse y) e S Q) c
end

section
variable {P : Program} {C : Cfg} {f : FuncId}

theorem eqFieldsF_eq {cs ds : List AV} : ∀ {fs : List Field} {r : Bool}, eqFieldsF P cs ds fs = some r → eqFields P cs ds fs = some r
  | [], r, h => h
  | fd :: fs, r, h => by
    unfold eqFieldsF at h
    unfold eqFields
    split at h
    · cases h
    · rename_i hn
      rw [if_neg hn]
      split at h
      · rename_i a b ha hb
        simp only [ha, hb]
        split at h
        · rename_i r1 q h1 h2
          cases h
          simp only [h1, Option.bind_some]
          cases r1
          · rfl
          · simp only [if_true, Bool.true_and]; exact eqFieldsF_eq h2
        · cases h
      · cases h
theorem eqF_eq {t : TypeId} {x y : AV} {r : Bool} (h : eqF P t x y = some r) : eqA P t x y = some r := by
  unfold eqF at h
  unfold eqA
  split at h
  · rename_i fs a b hu
    split at h
    · cases h
    · rename_i hg
      simp only [hu]
      rw [if_neg hg]
      exact eqFieldsF_eq h
  · rename_i hne
    split
    · rename_i fs a b hu; exact absurd rfl (hne fs a b hu rfl)
    · exact h
theorem binF_sound {op : BinOp} {t : TypeId} {x y : AV} {xc yc : Bool} {K : AV → Prop} (h : binF P op t x y xc yc K) : ∃ v, binA P op t x y xc yc = some v ∧ K v := by
  unfold binF at h
  split at h
  · split at h
    · rename_i r hr; exact ⟨_, by simp [binA, eqF_eq hr], h _ rfl⟩
    · exact h.elim
  · split at h
    · rename_i r hr; exact ⟨_, by simp [binA, eqF_eq hr], h _ rfl⟩
    · exact h.elim
  · rename_i k a j b
    have : ¬ b < 0 := by omega
    exact ⟨_, by simp only [binA]; rw [if_neg this], h.2⟩
  · rename_i k a j b
    have : ¬ b < 0 := by omega
    exact ⟨_, by simp only [binA]; rw [if_neg this], h.2⟩
  · split at h
    · rename_i k a j b e; subst e; exact ⟨_, by simp [binA, intA, h.1], h.2⟩
    · exact h.elim
  · split at h
    · rename_i k a j b e; subst e; exact ⟨_, by simp [binA, intA, h.1], h.2⟩
    · exact h.elim
  · exact ⟨_, by simp only [binA, strA]; rw [if_pos h.1], h.2⟩
  · split at h
    · rename_i b hb; exact ⟨_, hb, h _ rfl⟩
    · rename_i v _ hb; exact ⟨_, hb, forceV_iff.1 h⟩
    · exact h.elim

theorem opE_of {e : List AV} {S S1 : St} {o : Oper} {v : AV} (h : opA P C (fun _ _ _ => none) f e S o = some (.ret v, S1)) : OpE P C f e S o (.ret v) S1 := .of h

theorem partF_iff {ag : Bool} {r : Option AV} {K : AV → Prop} (h : partF ag r K) : ∃ v, r = some v ∧ K v := by
  unfold partF at h
  split at h
  · cases ag
    · exact ⟨_, rfl, h⟩
    · exact ⟨_, rfl, forceV_iff.1 h⟩
  · exact h.elim

theorem stepF_sound {e : List AV} {S : St} {o : Oper} {K : AV → St → Prop} (h : stepF P C f e S o K) : ∃ v S1, OpE P C f e S o (.ret v) S1 ∧ K v S1 := by
  obtain ⟨dst, op, type, pos, after, guard⟩ := o
  cases op
  case move x => exact ⟨_, S, .of (by simp [opA, retA]), evF_iff.1 h⟩
  case assign x => exact ⟨_, S, .of (by simp [opA, retA]), evF_iff.1 h⟩
  case unOp op t x =>
    simp only [stepF] at h
    split at h
    · rename_i v hv; exact ⟨_, _, .of (by simp [opA, hv, retA]), forceV_iff.1 h⟩
    · exact h.elim
  case nilCheck x =>
    simp only [stepF] at h
    split at h
    · rename_i hx; exact ⟨_, _, .of (by simp [opA, hx, retA]), h⟩
    · rename_i hx; exact ⟨_, _, .of (by simp [opA, hx, retA]), h⟩
    · rename_i hx; exact ⟨_, _, .of (by simp [opA, hx, retA]), h⟩
    · exact h.elim
  case field t x i =>
    simp only [stepF] at h
    split at h
    · rename_i nm ty off' a1 a2 a3 a4 hf
      split at h
      · rename_i s ag hs hg
        split at h
        · rename_i cs hx
          obtain ⟨v, hv, h⟩ := partF_iff h
          exact ⟨v, S, .of (by simp [opA, hx, fieldA, hf, hs, hg, hv, retA]), h⟩
        · exact h.elim
      · exact h.elim
    · exact h.elim
  case build t parts =>
    have h := partsF_iff.1 h
    split at h
    · rename_i v hv; exact ⟨_, _, .of (by simp [opA, hv, retA]), forceV_iff.1 h⟩
    · exact h.elim
  case makeInterface t x =>
    simp only [stepF] at h
    split at h
    · exact h.elim
    · rename_i d hne hd
      refine ⟨_, _, .of ?_, evF_iff.1 h⟩
      simp only [opA]
      split
      · rename_i hu; rw [hd] at hu; cases hu; exact (hne _ rfl).elim
      · rfl
      · rename_i hu; rw [hd] at hu; cases hu
    · exact h.elim
  case makeFunc fn a b => exact ⟨_, _, .of (by simp [opA, retA]), evsF_iff.1 (evsF_iff.1 h)⟩
  case extract t i =>
    simp only [stepF] at h
    split at h
    · rename_i vs hx
      split at h
      · rename_i v hv; exact ⟨_, _, .of (by simp [opA, hx, hv, retA]), h⟩
      · exact h.elim
    · exact h.elim
  case binOp bo t x y u =>
    simp only [stepF] at h
    obtain ⟨v, h1, h2⟩ := binF_sound h
    exact ⟨v, S, .of (by simp [opA, h1, retA]), h2⟩
  case pick c a b =>
    simp only [stepF] at h
    split at h
    · rename_i hc; exact ⟨_, _, .of (by simp [opA, hc, retA]), evF_iff.1 h⟩
    · rename_i hc; exact ⟨_, _, .of (by simp [opA, hc, retA]), evF_iff.1 h⟩
    · exact h.elim
  case load t a =>
    simp only [stepF] at h
    split at h
    · rename_i s ag h1 h2
      split at h
      · rename_i n off ha
        obtain ⟨cs, h3, h⟩ := h
        obtain ⟨v, h4, h⟩ := partF_iff h
        exact ⟨v, S, .of (by simp [opA, ha, loadA, h1, h2, h3, h4, retA]), h⟩
      · rename_i cs off ha
        obtain ⟨v, h4, h⟩ := partF_iff h
        exact ⟨v, S, .of (by simp [opA, ha, loadA, h1, h2, h4, retA]), h⟩
      · exact h.elim
    · exact h.elim
  case store t a x =>
    simp only [stepF] at h
    split at h
    · rename_i n off ha
      split at h
      · rename_i s h1
        obtain ⟨cs, cs', h2, h3, h4⟩ := evF_iff.1 h
        refine ⟨_, _, .of ?_, h4⟩
        simp only [opA, ha, storeA, h1, h2, Option.bind_some]
        split at h3
        · rename_i hif; cases h3; rw [if_pos hif]; rfl
        · cases h3
      · exact h.elim
    · exact h.elim
  case indexAddr t x i =>
    simp only [stepF] at h
    split at h
    · rename_i xs u k j hx hi
      split at h
      · rename_i el hu
        split at h
        · rename_i s hs
          obtain ⟨h0, v, hv, hc, h⟩ := h
          refine ⟨_, _, .of ?_, forceL_iff.1 h⟩
          have hlt := (List.getElem?_eq_some_iff.1 hv).1
          simp only [opA, hx, hi, indexAddrA, hu, hs, Option.bind_some]
          rw [if_pos ⟨h0, by omega⟩, hv]
          simp only [hc, if_true]; rfl
        · exact h.elim
      · exact h.elim
    · rename_i n off len s' k j hx hi
      split at h
      · rename_i el hu
        split at h
        · rename_i s hs
          split at h
          · rename_i he
            obtain ⟨h0, h1, h⟩ := h
            exact ⟨_, _, .of (by simp [opA, hx, hi, indexAddrA, hu, hs, he, h0, h1, retA]), h⟩
          · exact h.elim
        · exact h.elim
      · exact h.elim
    · rename_i cs off k j hx hi
      split at h
      · rename_i len el hu
        split at h
        · rename_i s hs
          obtain ⟨h0, h1, h⟩ := h
          exact ⟨_, _, .of (by simp [opA, hx, hi, indexAddrA, hu, hs, h0, h1, retA]), h⟩
        · exact h.elim
      · exact h.elim
    · rename_i n off k j hx hi
      split at h
      · rename_i len el hu
        split at h
        · rename_i s hs
          obtain ⟨h0, h1, h⟩ := h
          exact ⟨_, _, .of (by simp [opA, hx, hi, indexAddrA, hu, hs, h0, h1, retA]), h⟩
        · exact h.elim
      · exact h.elim
    · exact h.elim
  case index t x i =>
    simp only [stepF] at h
    split at h
    · rename_i s k j hu hx hi
      obtain ⟨h0, b, hb, h⟩ := h
      exact ⟨_, _, .of (by simp [opA, hx, hi, indexA, hu, hb, h0, retA]), h⟩
    · split at h
      · rename_i v hv; exact ⟨_, _, .of (by simp [opA, hv, retA]), forceV_iff.1 h⟩
      · exact h.elim
  case slice t x lo hi mx =>
    obtain ⟨v, hv, h⟩ := h
    exact ⟨_, _, .of (by simp [opA, hv, retA]), h⟩
  case makeSlice t l c =>
    obtain ⟨v, S1, hv, h⟩ := h
    exact ⟨_, _, .of (by simp [opA, hv, retA]), h⟩
  case convert s d x =>
    simp only [stepF] at h
    split at h
    · rename_i hx
      obtain ⟨v, hv, h⟩ := h
      have hno : (if s = d then cnvA P S s (evA e x) else none) = none := by
        split
        · rw [hx]; unfold cnvA; split
          · rename_i h2; cases h2
          · rfl
        · rfl
      refine ⟨_, _, .of (S1 := S) ?_, h⟩
      simp only [opA, hno]
      simp [hx, hv, retA]
    · rename_i hx
      split at h
      case isTrue => exact h.elim
      rename_i hsd
      obtain ⟨v, hv, h⟩ := h; exact ⟨_, _, .of (by simp [opA, hsd, hx, hv, retA]), h⟩
    · rename_i hn1 hn2
      split at h
      · rename_i v hv
        have hno : (if s = d then cnvA P S s (evA e x) else none) = none := by
          split
          · unfold cnvA; split
            · rename_i h2; exact absurd h2 (hn2 _ _ _ _)
            · rfl
          · rfl
        refine ⟨_, _, .of (S1 := S) ?_, forceV_iff.1 h⟩
        simp only [opA, hno]
        simp [hv, retA]
      · exact h.elim
  case next it b =>
    cases b
    · exact h.elim
    · obtain ⟨v, S1, hv, h⟩ := h
      exact ⟨_, _, .of (by simp [opA, hv, retA]), h⟩
  case buildSlice t len parts =>
    have h := partsF_iff.1 h
    split at h
    · rename_i v S1 hv; exact ⟨_, _, .of (by simp only [opA, hv, Option.bind_some, retA]), forceD_iff.1 h⟩
    · exact h.elim
  case box t x =>
    simp only [stepF] at h
    split at h
    · exact h.elim
    · exact h.elim
    · rename_i h1 h2
      have h := evF_iff.1 h
      split at h
      · rename_i hro
        refine ⟨_, _, .of ?_, forceL_iff.1 h⟩
        simp only [opA]
        rw [if_pos hro]; rfl
      · rename_i hro
        refine ⟨_, _, .of ?_, forceL_iff.1 h⟩
        simp only [opA]
        rw [if_neg hro]; rfl
  case alloc t =>
    simp only [stepF] at h
    split at h
    · rename_i z hz
      have h := forceL_iff.1 h
      split at h
      · rename_i ho; exact ⟨_, _, .of (by simp [opA, hz, retA, ho]), h⟩
      · rename_i ho; exact ⟨_, _, .of (by simp [opA, hz, retA, ho]), h⟩
    · exact h.elim
  case fieldAddr t x i =>
    simp only [stepF] at h
    split at h
    · rename_i nm ty off' a1 a2 a3 a4 hf
      split at h
      · rename_i s hs
        split at h
        · exact h.elim
        · rename_i h0
          split at h
          · rename_i n off hx; exact ⟨_, _, .of (by simp [opA, hx, fieldAddrA, hf, hs, h0, retA]), h⟩
          · rename_i cs off hx; exact ⟨_, _, .of (by simp [opA, hx, fieldAddrA, hf, hs, h0, retA]), h⟩
          · exact h.elim
      · exact h.elim
    · exact h.elim
  case range t x =>
    simp only [stepF] at h
    split at h
    · rename_i s hu hx; exact ⟨_, _, .of (by simp [opA, hu, hx, retA]), h⟩
    · exact h.elim
  case call c =>
    obtain ⟨callee, args, argTypes⟩ := c
    cases callee with
    | value g =>
      simp only [stepF] at h
      split at h
      · rename_i h0 a b hg
        have h := forceL_iff.1 (evsF_iff.1 h)
        unfold CallQ at h
        obtain ⟨v, S1, h1, h2⟩ := h
        exact ⟨v, S1, .call (c := ⟨.value g, args, argTypes⟩) rfl rfl hg rfl h1, h2⟩
      · exact h.elim
    | builtin b =>
      have gen2 : isPure (.call ⟨.builtin b, args, argTypes⟩) = true → (match builtinA P C f b argTypes (args.toList.map (evA e)) S with | some (.ret v, _) => forceV v fun v => K v S | _ => False) → ∃ v S1, OpE P C f e S ⟨dst, .call ⟨.builtin b, args, argTypes⟩, type, pos, after, guard⟩ (.ret v) S1 ∧ K v S1 := by
        intro hp h
        split at h
        · rename_i v S1 hv
          have hq : opA P C (fun _ _ _ => none) f e S ⟨dst, .call ⟨.builtin b, args, argTypes⟩, type, pos, after, guard⟩ = some (.ret v, S1) := by simp [opA, callOpA, hv]
          obtain ⟨rfl, -, -⟩ := pure_indep hp hq
          exact ⟨v, _, .of hq, forceV_iff.1 h⟩
        · exact h.elim
      have capc : b = .cap → ∃ v S1, OpE P C f e S ⟨dst, .call ⟨.builtin b, args, argTypes⟩, type, pos, after, guard⟩ (.ret v) S1 ∧ K v S1 := by
        rintro rfl
        have h := evsF_iff.1 h
        split at h
        · rename_i x hx
          split at h
          · rename_i t ht
            split at h
            · rename_i el hu; exact ⟨_, _, .of (by simp only [opA, callOpA, hx, builtinA]; simp only [ht, Option.bind_some, hu]; rfl), h⟩
            · rename_i el xs hu; exact ⟨_, _, .of (by simp only [opA, callOpA, hx, builtinA]; simp only [ht, Option.bind_some, hu]; rfl), h⟩
            · exact h.elim
          · exact h.elim
        · exact h.elim
      cases b <;> first
        | exact capc rfl
        | exact gen2 rfl h
        | (obtain ⟨v, S1, hv, h⟩ := evsF_iff.1 h
           exact ⟨v, S1, .of (by simp [opA, callOpA, hv]), h⟩)
        | exact h.elim
    | invoke a b => exact h.elim
  all_goals exact h.elim

theorem wantF_sound {ops : Array Oper} {e : List AV} {o : Oper} {K1 K2 : Prop} (h : wantF ops e o K1 K2) : (wantedA ops e o = some true ∧ K1) ∨ (wantedA ops e o = some false ∧ K2) := by
  unfold wantF at h
  unfold wantedA
  split at h
  · rename_i hg; rw [hg]; exact .inl ⟨rfl, h⟩
  · rename_i j w hg
    rw [hg]
    simp only
    split at h
    · rename_i q hq
      simp only [hq]
      split at h
      · rename_i d hd
        simp only [hd]
        split at h
        · rename_i b hb
          simp only [hb]
          split at h
          · exact .inl ⟨by simp, h⟩
          · exact .inl ⟨by simp, h⟩
          · exact .inr ⟨by simp, h⟩
          · exact .inr ⟨by simp, h⟩
        · rename_i hb; simp only [hb]; exact .inr ⟨trivial, h⟩
        · exact h.elim
      · exact h.elim
    · exact h.elim

theorem stabsF_iff {ops : Array Oper} {e : List AV} {S : St} : ∀ {rs : List Nat} {K : Prop}, stabsF P C f ops e S rs K → (∀ r ∈ rs, StabOk P C (fun _ _ _ => none) f ops e S r) ∧ K
  | [], K, h => ⟨fun r hr => (List.not_mem_nil hr).elim, h⟩
  | r :: rs, K, h => by
    obtain ⟨h1, h2⟩ := stabsF_iff h.2
    refine ⟨fun q hq => ?_, h2⟩
    rcases List.mem_cons.1 hq with rfl | hq
    · exact h.1
    · exact h1 q hq
theorem stepP_sound {e : List AV} {S : St} {o : Oper} {K PK : AV → St → Prop} (h : stepP P C f e S o K PK) : (∃ v S1, OpE P C f e S o (.ret v) S1 ∧ K v S1) ∨ ∃ v S1, OpE P C f e S o (.panic v) S1 ∧ PK v S1 := by
  unfold stepP at h
  split at h
  · rename_i x hx
    split at h
    · rename_i t v hv; exact .inr ⟨_, _, .panicOp hx hv, h⟩
    · exact h.elim
  · rename_i g args ty hc
    split at h
    · exact .inl (stepF_sound h)
    · split at h
      · rename_i h0 a b hg
        have h := forceL_iff.1 (evsF_iff.1 h)
        unfold CallP at h
        obtain ⟨r, S1, h1, h2⟩ := h
        have h3 : OpE P C f e S o r S1 := .call (c := ⟨.value g, args, ty⟩) hc rfl hg rfl h1
        cases r with
        | ret v => exact .inl ⟨v, S1, h3, h2⟩
        | panic v => exact .inr ⟨v, S1, h3, h2⟩
      · exact h.elim
  · exact .inl (stepF_sound h)
theorem runF_sound {ops : Array Oper} {st : List (Nat × List Nat)} {stab : Nat → List Nat} {pan : Nat → Nat → Bool} : ∀ (l : List Nat) {e : List AV} {S : St} {K : List AV → St → Prop} {PQ : AV → List AV → St → Prop}, (∀ i ∈ l, stab i = (st.lookup i).getD []) → runF P C f ops st pan l e S K PQ →
    (∃ e' S', OpsE P C f ops stab pan l e S .normal e' S' ∧ K e' S') ∨ ∃ v e' S', OpsE P C f ops stab pan l e S (.panic v) e' S' ∧ PQ v e' S'
  | [], e, S, K, PQ, hst, h => .inl ⟨e, S, .nil, h⟩
  | i :: l, e, S, K, PQ, hst, h => by
    change rCons P C f ops st pan i l (runF P C f ops st pan l) e S K PQ at h
    unfold rCons at h
    split at h
    · rename_i o ho
      have hl : ∀ j ∈ l, stab j = (st.lookup j).getD [] := fun j hj => hst j (List.mem_cons_of_mem _ hj)
      rcases wantF_sound h with ⟨h1, h⟩ | ⟨h1, h⟩
      · rcases stepP_sound h with ⟨v, S1, h2, h⟩ | ⟨v, S1, h2, h⟩
        · obtain ⟨hs, h⟩ := stabsF_iff h
          have hs' : ∀ r ∈ stab i, StabOk P C (fun _ _ _ => none) f ops e S1 r := by rw [hst i List.mem_cons_self]; exact hs
          rcases runF_sound (stab := stab) (pan := pan) l hl (putO_iff.1 h) with ⟨e', S', h3, h4⟩ | ⟨w, e', S', h3, h4⟩
          · exact .inl ⟨e', S', .consS ho h1 hs' h2 h3, h4⟩
          · exact .inr ⟨w, e', S', .consS ho h1 hs' h2 h3, h4⟩
        · split at h
          · rename_i hp; exact .inr ⟨v, e, S1, .panic ho h1 h2 hp, h⟩
          · exact h.elim
      · rcases runF_sound (stab := stab) (pan := pan) l hl (putO_iff.1 h) with ⟨e', S', h3, h4⟩ | ⟨w, e', S', h3, h4⟩
        · exact .inl ⟨e', S', .skip ho h1 h3, h4⟩
        · exact .inr ⟨w, e', S', .skip ho h1 h3, h4⟩
    · exact h.elim

theorem wpF_sound : ∀ (c : Code) {e : List AV} {S : St} {Q : Out → List AV → St → Prop}, wpF P C f c e S Q → ∃ out e' S', CodeE P C f c e S out e' S' ∧ Q out e' S'
  | .skip, e, S, Q, h => ⟨_, _, _, .skip, h⟩
  | .label _, e, S, Q, h => ⟨_, _, _, .label, h⟩
  | .region _ ops false, e, S, Q, h => by
    rcases runF_sound (stab := fun _ => []) (pan := fun _ _ => true) _ (fun _ _ => rfl) h with ⟨e', S', h1, h2⟩ | ⟨v, e', S', h1, h2⟩
    · exact ⟨_, _, _, .plain h1, h2⟩
    · exact ⟨_, _, _, .plain h1, h2⟩
  | .region _ ops true, e, S, Q, h => by
    obtain ⟨l, st, h0, rfl, h1, h⟩ := h
    rcases runF_sound (stab := stabOf ops) (pan := anc ops) _ (fun i hi => by simpa using List.all_eq_true.1 h1 i hi) h with ⟨e', S', h1, h2⟩ | ⟨v, e', S', h1, h2⟩
    · exact ⟨_, _, _, .drawn h0 rfl h1, h2⟩
    · exact ⟨_, _, _, .drawn h0 rfl h1, h2⟩
  | .seq a b, e, S, Q, h => by
    obtain ⟨out, e1, S1, h1, h2⟩ := wpF_sound a h
    cases out with
    | normal => obtain ⟨out, e', S', h3, h4⟩ := wpF_sound b h2; exact ⟨_, _, _, .seq h1 h3, h4⟩
    | exit j => exact ⟨_, _, _, .seqOut h1 (by simp), h2⟩
    | ret => exact ⟨_, _, _, .seqOut h1 (by simp), h2⟩
    | panic v => exact ⟨_, _, _, .seqOut h1 (by simp), h2⟩
  | .cond c a b, e, S, Q, h => by
    change wCond c (wpF P C f a) (wpF P C f b) e S Q at h
    unfold wCond at h
    split at h
    · rename_i hc; obtain ⟨out, e', S', h3, h4⟩ := wpF_sound a h; exact ⟨_, _, _, .condT hc h3, h4⟩
    · rename_i hc; obtain ⟨out, e', S', h3, h4⟩ := wpF_sound b h; exact ⟨_, _, _, .condF hc h3, h4⟩
    · exact h.elim
  | .block id b, e, S, Q, h => by
    obtain ⟨out, e1, S1, h1, h2⟩ := wpF_sound b h
    cases out with
    | exit j =>
      change (if j = id then Q .normal e1 S1 else Q (.exit j) e1 S1) at h2
      split at h2
      · rename_i hj; subst hj; exact ⟨_, _, _, .blockHere h1, h2⟩
      · rename_i hj; exact ⟨_, _, _, .blockOut h1 hj, h2⟩
    | normal => exact ⟨_, _, _, .block h1 (fun _ => by simp), h2⟩
    | ret => exact ⟨_, _, _, .block h1 (fun _ => by simp), h2⟩
    | panic v => exact ⟨_, _, _, .block h1 (fun _ => by simp), h2⟩
  | .exit i, e, S, Q, h => ⟨_, _, _, .exit, h⟩
  | .ret, e, S, Q, h => ⟨_, _, _, .ret, h⟩
  | .loop b, e, S, Q, h => by change CodeQ P C f _ e S Q at h; unfold CodeQ at h; exact h
  | .rangeFunc .., e, S, Q, h => by change CodeQ P C f _ e S Q at h; unfold CodeQ at h; exact h
  | .scope _, e, S, Q, h => by change CodeQ P C f _ e S Q at h; unfold CodeQ at h; exact h
  | .goto _, e, S, Q, h => by change CodeQ P C f _ e S Q at h; unfold CodeQ at h; exact h
  | .refuse _, e, S, Q, h => by change CodeQ P C f _ e S Q at h; unfold CodeQ at h; exact h

def resF (P : Program) (e : List AV) (S : St) : List ResultVar → (List AV → Prop) → Prop
  | [], K => K []
  | .tmp t :: l, K => match decide (t < e.length) with
    | true => getF e t fun v => resF P e S l fun m => K (v :: m)
    | false => False
  | .cell a t :: l, K => ∃ v, loadA P S t (e.getD a .undef) = some v ∧ resF P e S l fun m => K (v :: m)
def oneF (vs : List AV) (K : AV → Prop) : Prop := match vs with
  | [v] => K v
  | vs => K (.tuple vs)
/-- What a call hands on. -/
def postF (C : Cfg) (f : FuncId) (Q : AV → St → Prop) (v : AV) (S : St) : Prop := if C.frz f = true then (∃ u S1, frzA (S.next + 4) v S = some (u, S1) ∧ Q u.shed2 S1) else if C.keep f = true then Q v S else Q v.shed2 S
theorem postF_sound {Q : AV → St → Prop} {v : AV} {S : St} (h : postF C f Q v S) : ∃ u S1, postA C f v S = some (u, S1) ∧ Q u S1 := by
  unfold postF at h
  unfold postA
  split at h
  · rename_i hf
    obtain ⟨u, S1, h1, h2⟩ := h
    rw [if_pos hf, h1]
    exact ⟨_, _, rfl, h2⟩
  · rename_i hf
    rw [if_neg hf]
    split at h <;> exact ⟨_, _, rfl, by simp_all⟩
def retQ (P : Program) (C : Cfg) (f : FuncId) (fn : Func) (Q : AV → St → Prop) : Out → List AV → St → Prop
  | .normal, e, S => resF P e S fn.results.toList fun vs => oneF vs fun v => postF C f Q v S
  | .ret, e, S => resF P e S fn.results.toList fun vs => oneF vs fun v => postF C f Q v S
  | _, _, _ => False

theorem resF_sound {e : List AV} {S : St} : ∀ {l : List ResultVar} {K : List AV → Prop}, resF P e S l K → ∃ vs, l.mapM (resultA P e S) = some vs ∧ K vs
  | [], K, h => ⟨[], rfl, h⟩
  | .tmp t :: l, K, h => by
    unfold resF at h
    split at h
    case h_2 => exact h.elim
    rename_i hd
    have hlt : t < e.length := by simpa using hd
    obtain ⟨vs, h1, h2⟩ := resF_sound (getF_iff.1 h)
    refine ⟨_, ?_, h2⟩
    simp only [List.mapM_cons, resultA, h1, List.getD, List.getElem?_eq_getElem hlt]
    rfl
  | .cell a t :: l, K, h => by
    obtain ⟨v, h0, h⟩ := h
    obtain ⟨vs, h1, h2⟩ := resF_sound h
    refine ⟨_, ?_, h2⟩
    simp only [List.mapM_cons, resultA, h0, h1]
    rfl

theorem retQ_sound {fn : Func} {Q : AV → St → Prop} {e : List AV} {S : St} (h : resF P e S fn.results.toList fun vs => oneF vs fun v => postF C f Q v S) : ∃ v u S1, resultsA P fn e S = some v ∧ postA C f v S = some (u, S1) ∧ Q u S1 := by
  obtain ⟨vs, h1, h2⟩ := resF_sound h
  unfold resultsA
  rw [h1]
  have key : ∀ v, postF C f Q v S → ∃ v' u S1, some v = some v' ∧ postA C f v' S = some (u, S1) ∧ Q u S1 := fun v h => by
    obtain ⟨u, S1, h3, h4⟩ := postF_sound h
    exact ⟨v, u, S1, rfl, h3, h4⟩
  unfold oneF at h2
  split at h2
  · exact key _ h2
  · rename_i vs hne
    have h3 := key _ h2
    obtain ⟨v', u, S1, e, h4, h5⟩ := h3
    refine ⟨v', u, S1, ?_, h4, h5⟩
    rw [← e]
    simp only [Option.map_some]

theorem CallQ.of {fn : Func} {c : Code} {args : List AV} {S : St} {Q : AV → St → Prop} (hi : C.told f = none) (hf : P.funcs[f]? = some fn) (hb : fn.body = some c) (hn : fn.name ≠ "runtime.NumGoroutine")
    (h : forceL (args ++ List.replicate (fn.ntmps - args.length) (.tuple [])) fun e => wpF P C f c e S (retQ P C f fn Q)) : CallQ P C f args S Q := by
  obtain ⟨out, e', S', h1, h2⟩ := wpF_sound c (forceL_iff.1 h)
  unfold CallQ
  cases out with
  | normal => obtain ⟨v, u, S1, hv, hp, hq⟩ := retQ_sound h2; exact ⟨_, S1, .of hi hf hb hn (.inl rfl) h1 hv hp, hq⟩
  | ret => obtain ⟨v, u, S1, hv, hp, hq⟩ := retQ_sound h2; exact ⟨_, S1, .of hi hf hb hn (.inr rfl) h1 hv hp, hq⟩
  | exit j => exact h2.elim
  | panic v => exact h2.elim
theorem CallQ.ofZ {fn : Func} {c : Code} {args args' : List AV} {S S0 : St} {Q : AV → St → Prop} (hi1 : C.intr f = none) (hi2 : C.hook f = none) (hz : C.fza f = true) (hm : mapS (frzA (S.next + 4)) args S = some (args', S0)) (hf : P.funcs[f]? = some fn) (hb : fn.body = some c) (hn : fn.name ≠ "runtime.NumGoroutine")
    (h : forceL (args' ++ List.replicate (fn.ntmps - args'.length) (.tuple [])) fun e => wpF P C f c e S0 (retQ P C f fn Q)) : CallQ P C f args S Q := by
  obtain ⟨out, e', S', h1, h2⟩ := wpF_sound c (forceL_iff.1 h)
  unfold CallQ
  cases out with
  | normal => obtain ⟨v, u, S1, hv, hp, hq⟩ := retQ_sound h2; exact ⟨_, S1, .ofZ hi1 hi2 hz hm hf hb hn (.inl rfl) h1 hv hp, hq⟩
  | ret => obtain ⟨v, u, S1, hv, hp, hq⟩ := retQ_sound h2; exact ⟨_, S1, .ofZ hi1 hi2 hz hm hf hb hn (.inr rfl) h1 hv hp, hq⟩
  | exit j => exact h2.elim
  | panic v => exact h2.elim
/-- .. or it panics. -/
def retP (P : Program) (C : Cfg) (f : FuncId) (fn : Func) (Q PQ : AV → St → Prop) : Out → List AV → St → Prop
  | .normal, e, S => resF P e S fn.results.toList fun vs => oneF vs fun v => postF C f Q v S
  | .ret, e, S => resF P e S fn.results.toList fun vs => oneF vs fun v => postF C f Q v S
  | .panic v, _, S => PQ v S
  | _, _, _ => False
theorem CallP.of {fn : Func} {c : Code} {args : List AV} {S : St} {Q PQ : AV → St → Prop} (hi : C.told f = none) (hf : P.funcs[f]? = some fn) (hb : fn.body = some c) (hn : fn.name ≠ "runtime.NumGoroutine")
    (h : forceL (args ++ List.replicate (fn.ntmps - args.length) (.tuple [])) fun e => wpF P C f c e S (retP P C f fn Q PQ)) : CallP P C f args S Q PQ := by
  obtain ⟨out, e', S', h1, h2⟩ := wpF_sound c (forceL_iff.1 h)
  unfold CallP
  cases out with
  | normal => obtain ⟨v, u, S1, hv, hp, hq⟩ := retQ_sound h2; exact ⟨_, S1, .of hi hf hb hn (.inl rfl) h1 hv hp, hq⟩
  | ret => obtain ⟨v, u, S1, hv, hp, hq⟩ := retQ_sound h2; exact ⟨_, S1, .of hi hf hb hn (.inr rfl) h1 hv hp, hq⟩
  | exit j => exact h2.elim
  | panic v => exact ⟨_, S', .panic hi hf hb hn h1, h2⟩
theorem CallP.mono {args : List AV} {S : St} {Q Q' PQ PQ' : AV → St → Prop} (h : CallP P C f args S Q PQ) (hq : ∀ v S', Q v S' → Q' v S') (hp : ∀ v S', PQ v S' → PQ' v S') : CallP P C f args S Q' PQ' := by
  unfold CallP at *
  obtain ⟨r, S', h1, h2⟩ := h
  refine ⟨r, S', h1, ?_⟩
  cases r with
  | ret v => exact hq _ _ h2
  | panic v => exact hp _ _ h2
theorem CallP.ofQ {args : List AV} {S : St} {Q Q' PQ : AV → St → Prop} (h : CallQ P C f args S Q) (hq : ∀ v S', Q v S' → Q' v S') : CallP P C f args S Q' PQ := by
  unfold CallQ at h
  unfold CallP
  obtain ⟨v, S', h1, h2⟩ := h
  exact ⟨.ret v, S', h1, hq _ _ h2⟩
theorem CallQ.ofP {args : List AV} {S : St} {Q PQ : AV → St → Prop} (h : CallP P C f args S Q PQ) (hp : ∀ v S', ¬ PQ v S') : CallQ P C f args S Q := by
  unfold CallP at h
  unfold CallQ
  obtain ⟨r, S', h1, h2⟩ := h
  cases r with
  | ret v => exact ⟨v, S', h1, h2⟩
  | panic v => exact absurd h2 (hp v S')
/-- What a hook comes to. -/
def scriptF (P : Program) (C : Cfg) (Q PQ : AV → St → Prop) (s : Script) : Prop := ∃ r S', ScriptE P C s r S' ∧ (match r with | .ret v => Q v S' | .panic v => PQ v S')
theorem scriptF.done {Q PQ : AV → St → Prop} {v : AV} {S' : St} (h : Q v S') : scriptF P C Q PQ (.done (some (.ret v, S'))) := ⟨_, _, .done, h⟩
theorem scriptF.doneP {Q PQ : AV → St → Prop} {v : AV} {S' : St} (h : PQ v S') : scriptF P C Q PQ (.done (some (.panic v, S'))) := ⟨_, _, .done, h⟩
theorem scriptF.call {Q PQ : AV → St → Prop} {g : FuncId} {a : List AV} {S : St} {k : Res → St → Script} (h : CallP P C g a S (fun v S1 => scriptF P C Q PQ (k (.ret v) S1)) (fun v S1 => scriptF P C Q PQ (k (.panic v) S1))) : scriptF P C Q PQ (.call g a S k) := by
  unfold CallP at h
  obtain ⟨r, S1, h1, h2⟩ := h
  cases r with
  | ret v => obtain ⟨r', S', h3, h4⟩ := h2; exact ⟨r', S', .call h1 h3, h4⟩
  | panic v => obtain ⟨r', S', h3, h4⟩ := h2; exact ⟨r', S', .call h1 h3, h4⟩
theorem CallP.hook {H : List AV → St → Script} {args : List AV} {S : St} {Q PQ : AV → St → Prop} (hi : C.intr f = none) (hh : C.hook f = some H) (h : scriptF P C Q PQ (H args S)) : CallP P C f args S Q PQ := by
  obtain ⟨r, S', h1, h2⟩ := h
  unfold CallP
  exact ⟨r, S', .hook hi hh h1, h2⟩
theorem CallQ.mono {args : List AV} {S : St} {Q Q' : AV → St → Prop} (h : CallQ P C f args S Q) (hq : ∀ v S', Q v S' → Q' v S') : CallQ P C f args S Q' := by
  unfold CallQ at *
  obtain ⟨v, S', h1, h2⟩ := h
  exact ⟨v, S', h1, hq _ _ h2⟩
theorem CallQ.intr {g : List AV → St → Option (AV × St)} {args : List AV} {S S' : St} {v : AV} {Q : AV → St → Prop} (hi : C.intr f = some g) (h : g args S = some (v, S')) (hq : Q v S') : CallQ P C f args S Q := by
  unfold CallQ
  exact ⟨v, S', .intr hi h, hq⟩

/-! ### loops -/
def fillF : List (Option AV) → (Nat → AV) → Nat → (List AV → Prop) → Prop
  | [], _, _, K => K []
  | some v :: p, d, k, K => fillF p d (k + 1) fun l => K (v :: l)
  | none :: p, d, k, K => fillF p d (k + 1) fun l => K (d k :: l)
def Fits : List AV → List (Option AV) → Prop
  | [], [] => True
  | v :: e, some u :: p => v = u ∧ Fits e p
  | _ :: e, none :: p => Fits e p
  | _, _ => False
def patF (l : List (Nat × AV)) : Nat → Nat → List (Option AV)
  | 0, _ => []
  | n + 1, k => l.lookup k :: patF l n (k + 1)
/-- The temporaries that are known. -/
def pat (n : Nat) (l : List (Nat × AV)) : List (Option AV) := patF l n 0

theorem fill_of_fits : ∀ {e : List AV} {p : List (Option AV)} {K : List AV → Prop} (k : Nat) (d : Nat → AV), Fits e p → (∀ j, j < e.length → d (k + j) = e.getD j .undef) → fillF p d k K → K e
  | [], [], K, k, d, _, _, h => h
  | v :: e, some u :: p, K, k, d, hf, hd, h => by
    obtain ⟨rfl, hf⟩ := hf
    exact fill_of_fits (K := fun l => K (v :: l)) (k + 1) d hf (fun j hj => by
      have := hd (j + 1) (by simp; omega)
      rw [show k + 1 + j = k + (j + 1) by omega, this]; rfl) h
  | v :: e, none :: p, K, k, d, hf, hd, h => by
    have hv : d k = v := hd 0 (by simp)
    have := fill_of_fits (e := e) (p := p) (K := fun l => K (d k :: l)) (k + 1) d hf (fun j hj => by
      have := hd (j + 1) (by simp; omega)
      rw [show k + 1 + j = k + (j + 1) by omega, this]; rfl) h
    rw [hv] at this; exact this
  | [], some _ :: _, _, _, _, hf, _, _ => hf.elim
  | [], none :: _, _, _, _, hf, _, _ => hf.elim
  | _ :: _, [], _, _, _, hf, _, _ => hf.elim

/-- A loop: what is known of the temporaries at its head ('p'), and a measure. -/
theorem CodeQ.loop {β : Type} (p : β → List (Option AV)) (I : Nat → β → St → Prop) {body : Code} {Q : Out → List AV → St → Prop}
    (hs : ∀ m b S d, I m b S → fillF (p b) d 0 fun e => wpF P C f body e S fun out e1 S1 => match out with
      | .normal => ∃ m' b', m' < m ∧ I m' b' S1 ∧ Fits e1 (p b')
      | o => Q o e1 S1) : ∀ (m : Nat) (b : β) (e : List AV) (S : St), I m b S → Fits e (p b) → CodeQ P C f (.loop body) e S Q := by
  intro m
  induction m using Nat.strongRecOn with
  | _ m ih =>
    intro b e S hI hf
    have h := fill_of_fits 0 (fun j => e.getD j .undef) hf (fun j _ => by simp) (hs m b S _ hI)
    obtain ⟨out, e1, S1, h1, h2⟩ := wpF_sound body h
    unfold CodeQ
    cases out with
    | normal =>
      obtain ⟨m', b', hlt, hI', hf'⟩ := h2
      have := ih m' hlt b' e1 S1 hI' hf'
      unfold CodeQ at this
      obtain ⟨out, e', S', h3, h4⟩ := this
      exact ⟨_, _, _, .loop h1 h3, h4⟩
    | exit j => exact ⟨_, _, _, .loopOut h1 (by simp), h2⟩
    | ret => exact ⟨_, _, _, .loopOut h1 (by simp), h2⟩
    | panic v => exact ⟨_, _, _, .loopOut h1 (by simp), h2⟩

theorem cells_new (S : St) (cs : List AV) : (S.new (.cells cs)).cells S.next = some cs := by simp [St.cells, St.new, upd]
theorem cells_new_ne {S : St} {b : Blk} {n : Nat} {cs : List AV} (h : S.cells n = some cs) (hn : n ≠ S.next) : (S.new b).cells n = some cs := by
  simp only [St.cells, St.new, upd] at *
  rw [if_neg hn]; exact h
theorem cells_set (S : St) (n : Nat) (cs : List AV) : (S.set n (some (.cells cs))).cells n = some cs := by simp [St.cells, St.set, upd]
theorem cells_set_ne {S : St} {b : Option Blk} {m n : Nat} {cs : List AV} (h : S.cells n = some cs) (hn : n ≠ m) : (S.set m b).cells n = some cs := by
  simp only [St.cells, St.set, upd] at *
  rw [if_neg hn]; exact h
end
end Go.Proofs.Ytfphpjinimfhfaa.VM
