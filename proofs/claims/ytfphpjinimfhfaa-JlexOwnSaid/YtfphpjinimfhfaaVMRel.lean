import Derived.Test.YtfphpjinimfhfaaVMDefs
import Derived.Laws.Sem
import Derived.Laws.Cells
import Derived.Laws.Rows
import Derived.Laws.CopyRow
import Derived.Laws.IdiomCopy
import Derived.Laws.Entries
import Derived.Lib.FrozenHead
/-! How the machine of values stands to the model's worlds. -/
namespace Go.Proofs.Ytfphpjinimfhfaa.VM
set_option linter.unusedSectionVars false
open Go.RowKit

/-- What is known of the model's memory for good: cells that nobody writes (M), where names lie (io), how many cells a block has at least (sz). -/
structure Gh where
  M : Nat → Nat → Option Value
  io : Nat → Option (Nat × Nat)
  sz : Nat → Option Nat

def TipR (G : Gh) (b e : Nat) (o cap len s : Nat) : Tip → Prop
  | .lost => True
  | .full => cap = len
  | .tag n => G.io n = some (b, e) ∧ 0 < len ∧ ∃ m, G.sz b = some m ∧ o + cap * s ≤ m

inductive VR (G : Gh) : AV → Value → Prop
  | undef (c : Value) : VR G .undef c
  | bool (b : Bool) : VR G (.bool b) (.bool b)
  | int (k : IntKind) (n : Int) : VR G (.int k n) (.int k n)
  | str (s : List UInt8) : VR G (.str s) (.string ⟨s.toArray⟩)
  | nul : VR G .nul (.pointer none)
  | ptr (n off b o : Nat) (h : G.io n = some (b, o)) : VR G (.ptr n off) (.pointer (some ⟨b, o + off, none⟩))
  | cptr (cs : List AV) (off b o : Nat) (val : Nat → Value) (hm : ∀ i, i < cs.length → G.M b (o + i) = some (val i)) (hv : ∀ i (h : i < cs.length), VR G cs[i] (val i)) :
      VR G (.cptr cs off) (.pointer (some ⟨b, o + off, none⟩))
  | nils : VR G .nils (.slice none 0 0)
  | lst (xs : List AV) (t : Tip) (b o cap s : Nat) (val : Nat → Value) (hc : xs.length ≤ cap) (hs : ∀ x ∈ xs, x.cells.length = s)
      (hm : ∀ i, i < (flat xs).length → G.M b (o + i) = some (val i)) (hv : ∀ i (h : i < (flat xs).length), VR G (flat xs)[i] (val i))
      (ht : TipR G b (o + (flat xs).length) o cap xs.length s t) : VR G (.lst xs t) (.slice (some ⟨b, o, none⟩) xs.length cap)
  | elst (t : Tip) (a : Addr) (cap : Nat) (ht : t = .lost ∨ (t = .full ∧ cap = 0)) : VR G (.lst [] t) (.slice (some a) 0 cap)
  | hnd (n off len s b o cap m : Nat) (h : G.io n = some (b, o)) (hc : len ≤ cap) (hz : G.sz b = some m) (hm : o + off + cap * s ≤ m) :
      VR G (.hnd n off len s) (.slice (some ⟨b, o + off, none⟩) len cap)
  | func (fn : Fn) (xs ys : List AV) (cs ds : Array Value) (hx : xs.length = cs.size) (hy : ys.length = ds.size) (h1 : ∀ i (h : i < xs.length), VR G xs[i] (cs.getD i Go.undef))
      (h2 : ∀ i (h : i < ys.length), VR G ys[i] (ds.getD i Go.undef)) : VR G (.func fn xs ys) (.func fn cs ds)
  | nilFunc : VR G .nilFunc .nilFunc
  | iface (t : TypeId) (v : AV) (c : Value) (h : VR G v c) : VR G (.iface t v) (.iface t c)
  | nilIface : VR G .nilIface .nilIface
  | agg (xs : List AV) (cs : Array Value) (hx : xs.length = cs.size) (h1 : ∀ i (h : i < xs.length), VR G xs[i] (cs.getD i Go.undef)) : VR G (.agg xs) (.agg cs)
  | tuple (xs : List AV) (cs : Array Value) (hx : xs.length = cs.size) (h1 : ∀ i (h : i < xs.length), VR G xs[i] (cs.getD i Go.undef)) : VR G (.tuple xs) (.tuple cs)
  | iter (n b : Nat) (h : G.io n = some (b, 0)) : VR G (.iter n) (.pointer (some ⟨b, 0, none⟩))

inductive VRs (G : Gh) : List AV → List Value → Prop
  | nil : VRs G [] []
  | cons {v : AV} {c : Value} {xs : List AV} {cs : List Value} (h : VR G v c) (t : VRs G xs cs) : VRs G (v :: xs) (c :: cs)

/-- What is known grows; names outside [lo, hi) get no place. -/
structure GE (G G' : Gh) (lo hi : Nat) : Prop where
  io : ∀ n p, G.io n = some p → G'.io n = some p
  M : ∀ b o v, G.M b o = some v → G'.M b o = some v
  sz : ∀ b m, G.sz b = some m → G'.sz b = some m
  new : ∀ n, n < lo ∨ hi ≤ n → G'.io n = G.io n

theorem GE.refl (G : Gh) (lo hi : Nat) : GE G G lo hi := ⟨fun _ _ h => h, fun _ _ _ h => h, fun _ _ h => h, fun _ _ => rfl⟩
theorem GE.trans {G G1 G2 : Gh} {a b c : Nat} (h : GE G G1 a b) (k : GE G1 G2 b c) (hab : a ≤ b) (hbc : b ≤ c) : GE G G2 a c :=
  ⟨fun n p hp => k.io n p (h.io n p hp), fun b o v hp => k.M b o v (h.M b o v hp), fun b m hp => k.sz b m (h.sz b m hp),
   fun n hn => by rw [k.new n (by omega), h.new n (by omega)]⟩

theorem TipR.mono {G G' : Gh} {lo hi b e o cap len s : Nat} {t : Tip} (g : GE G G' lo hi) (h : TipR G b e o cap len s t) : TipR G' b e o cap len s t := by
  cases t with
  | lost => trivial
  | full => exact h
  | tag n => obtain ⟨h1, h2, m, h3, h4⟩ := h; exact ⟨g.io _ _ h1, h2, m, g.sz _ _ h3, h4⟩

theorem VR.mono {G G' : Gh} {lo hi : Nat} (g : GE G G' lo hi) {v : AV} {c : Value} (h : VR G v c) : VR G' v c := by
  induction h with
  | undef c => exact .undef c
  | bool b => exact .bool b
  | int k n => exact .int k n
  | str s => exact .str s
  | nul => exact .nul
  | ptr n off b o h => exact .ptr n off b o (g.io _ _ h)
  | cptr cs off b o val hm hv ih => exact .cptr cs off b o val (fun i hi => g.M _ _ _ (hm i hi)) ih
  | nils => exact .nils
  | lst xs t b o cap s val hc hs hm hv ht ih => exact .lst xs t b o cap s val hc hs (fun i hi => g.M _ _ _ (hm i hi)) ih (ht.mono g)
  | elst t a cap ht => exact .elst t a cap ht
  | hnd n off len s b o cap m h hc hz hm => exact .hnd n off len s b o cap m (g.io _ _ h) hc (g.sz _ _ hz) hm
  | func fn xs ys cs ds hx hy h1 h2 ih1 ih2 => exact .func fn xs ys cs ds hx hy ih1 ih2
  | nilFunc => exact .nilFunc
  | iface t v c h ih => exact .iface t v c ih
  | nilIface => exact .nilIface
  | agg xs cs hx h1 ih => exact .agg xs cs hx ih
  | tuple xs cs hx h1 ih => exact .tuple xs cs hx ih
  | iter n b h => exact .iter n b (g.io _ _ h)

/-- Cell by cell. -/
theorem VR.cells {G : Gh} {v : AV} {c : Value} (h : VR G v c) (hk : v.known = true) : v.cells.length = c.cells.size ∧ ∀ i (hi : i < v.cells.length), VR G v.cells[i] (c.cells.getD i Go.undef) := by
  have one : ∀ (v : AV) (c : Value), v.cells = [v] → c.cells = #[c] → VR G v c → v.cells.length = c.cells.size ∧ ∀ i (hi : i < v.cells.length), VR G v.cells[i] (c.cells.getD i Go.undef) := by
    intro v c hv hc h
    rw [hv, hc]
    refine ⟨rfl, fun i hi => ?_⟩
    simp only [List.length_singleton] at hi
    obtain rfl : i = 0 := by omega
    simpa using h
  cases h with
  | agg xs cs hx h1 => exact ⟨hx, h1⟩
  | undef c => cases hk
  | bool b => exact one _ _ rfl rfl (.bool b)
  | int k n => exact one _ _ rfl rfl (.int k n)
  | str s => exact one _ _ rfl rfl (.str s)
  | nul => exact one _ _ rfl rfl .nul
  | ptr n off b o h => exact one _ _ rfl rfl (.ptr n off b o h)
  | cptr cs off b o val hm hv => exact one _ _ rfl rfl (.cptr cs off b o val hm hv)
  | nils => exact one _ _ rfl rfl .nils
  | lst xs t b o cap s val hc hs hm hv ht => exact one _ _ rfl rfl (.lst xs t b o cap s val hc hs hm hv ht)
  | elst t a cap ht => exact one _ _ rfl rfl (.elst t a cap ht)
  | hnd n off len s b o cap m h hc hz hm => exact one _ _ rfl rfl (.hnd n off len s b o cap m h hc hz hm)
  | func fn xs ys cs ds hx hy h1 h2 => exact one _ _ rfl rfl (.func fn xs ys cs ds hx hy h1 h2)
  | nilFunc => exact one _ _ rfl rfl .nilFunc
  | iface t v c h => exact one _ _ rfl rfl (.iface t v c h)
  | nilIface => exact one _ _ rfl rfl .nilIface
  | tuple xs cs hx h1 => exact one _ _ rfl rfl (.tuple xs cs hx h1)
  | iter n b h => exact one _ _ rfl rfl (.iter n b h)

theorem VR.leaf {G : Gh} {v : AV} {c : Value} (h : VR G v c) (hl : v.leafOk = true) : c.oneCell' = true := by
  cases h <;> first | rfl | (simp [AV.leafOk] at hl)

theorem VR.shedLeaf {G : Gh} {v : AV} {c : Value} (h : VR G v c) : VR G v.shedLeaf c := by
  cases h with
  | lst xs t b o cap s val hc hs hm hv ht => exact .lst xs .lost b o cap s val hc hs hm hv trivial
  | elst t a cap ht => exact .elst .lost a cap (.inl rfl)
  | _ => first | exact h | (simp only [AV.shedLeaf]; constructor <;> assumption)
theorem VR.shed {G : Gh} {v : AV} {c : Value} (h : VR G v c) : VR G v.shed c := by
  cases h with
  | agg xs cs hx h1 => exact .agg _ _ (by simpa using hx) (fun i hi => by simp only [List.getElem_map]; exact (h1 i (by simpa using hi)).shedLeaf)
  | lst xs t b o cap s val hc hs hm hv ht => exact .lst xs .lost b o cap s val hc hs hm hv trivial
  | elst t a cap ht => exact .elst .lost a cap (.inl rfl)
  | _ => simp only [AV.shed, AV.shedLeaf]; constructor <;> assumption
theorem VR.shed2 {G : Gh} {v : AV} {c : Value} (h : VR G v c) : VR G v.shed2 c := by
  cases h with
  | tuple xs cs hx h1 => exact .tuple _ _ (by simpa using hx) (fun i hi => by simp only [List.getElem_map]; exact (h1 i (by simpa using hi)).shed)
  | agg xs cs hx h1 => exact VR.shed (.agg xs cs hx h1)
  | lst xs t b o cap s val hc hs hm hv ht => exact .lst xs .lost b o cap s val hc hs hm hv trivial
  | elst t a cap ht => exact .elst .lost a cap (.inl rfl)
  | _ => simp only [AV.shed2, AV.shed, AV.shedLeaf]; constructor <;> assumption

theorem shed_cells_length (x : AV) : x.shed.cells.length = x.cells.length := by
  cases x <;> simp [AV.shed, AV.shedLeaf, AV.cells]

theorem VR_ofLeaf (G : Gh) (v : Value) : VR G (ofLeaf v) v := by
  unfold ofLeaf
  split <;> first | exact .undef _ | exact .str _ | (constructor; done)
theorem VR_ofValue (G : Gh) (v : Value) : VR G (ofValue v) v := by
  unfold ofValue
  split
  · rename_i cs
    refine .agg _ _ (by simp) (fun i hi => ?_)
    simp only [List.getElem_map]
    have : i < cs.size := by simpa using hi
    simp only [Array.getElem_toList, Array.getD, this, dite_true]
    exact VR_ofLeaf G _
  · exact .tuple [] _ rfl (fun i hi => by simp at hi)
  · exact VR_ofLeaf G v

/-- A block. -/
def BR (G : Gh) (w : World) (b o : Nat) : Blk → Prop
  | .cells cs => ∃ ccs ty, w.heap[b]? = some (.cells ccs ty (0, 0)) ∧ o + cs.length ≤ ccs.size ∧ (∀ i (h : i < cs.length), VR G cs[i] (ccs.getD (o + i) Go.undef)) ∧ ∀ off, o ≤ off → G.M b off = none
  | .tip ty => ∃ ccs fr, w.heap[b]? = some (.cells ccs ty fr) ∧ fr.2 ≤ o ∧ ∀ off, o ≤ off → G.M b off = none
  | .iter s pos => w.heap[b]? = some (.stringIter ⟨s.toArray⟩ pos) ∧ o = 0
  | .raw ob => w.heap[b]? = some ob
  | .own ty cs => ∃ ccs, w.heap[b]? = some (.cells ccs ty (0, 0)) ∧ o = 0 ∧ cs.length = ccs.size ∧ (∀ i (h : i < cs.length), VR G cs[i] (ccs.getD i Go.undef)) ∧ ∀ off, G.M b off = none

variable [Glob]
/-- The world holds what is known and the named resources R. -/
structure SR (w0 : World) (G : Gh) (R : Nat → Option Blk) (w : World) : Prop where
  below : Below w0.heap.size w0 w
  imm : ∀ b off v, G.M b off = some v → w.cell? ⟨b, off, none⟩ = some v
  size : ∀ b m, G.sz b = some m → ∃ ccs ty fr, w.heap[b]? = some (.cells ccs ty fr) ∧ m ≤ ccs.size
  res : ∀ n blk, R n = some blk → ∃ b o, G.io n = some (b, o) ∧ w0.heap.size ≤ b ∧ BR G w b o blk
  apart : ∀ n m x y b o b' o', R n = some x → R m = some y → n ≠ m → G.io n = some (b, o) → G.io m = some (b', o') → b ≠ b'
  laid : Glob.okw w0

theorem BR.mono {G G' : Gh} {lo hi : Nat} (g : GE G G' lo hi) {w : World} {b o : Nat} {blk : Blk} (hM : ∀ off, o ≤ off → G.M b off = none → G'.M b off = none) (h : BR G w b o blk) : BR G' w b o blk := by
  cases blk with
  | cells cs => obtain ⟨ccs, ty, h1, h2, h3, h4⟩ := h; exact ⟨ccs, ty, h1, h2, fun i hi => (h3 i hi).mono g, fun off ho => hM off ho (h4 off ho)⟩
  | tip ty => obtain ⟨ccs, fr, h1, h2, h3⟩ := h; exact ⟨ccs, fr, h1, h2, fun off ho => hM off ho (h3 off ho)⟩
  | iter s pos => exact h
  | raw ob => exact h
  | own ty cs => obtain ⟨ccs, h1, rfl, h2, h3, h4⟩ := h; exact ⟨ccs, h1, rfl, h2, fun i hi => (h3 i hi).mono g, fun off => hM off (Nat.zero_le _) (h4 off)⟩

theorem BR.block {G : Gh} {w : World} {b o : Nat} {blk : Blk} (h : BR G w b o blk) : b < w.heap.size := by
  have : ∃ x, w.heap[b]? = some x := by
    cases blk with
    | cells cs => obtain ⟨ccs, ty, h1, _⟩ := h; exact ⟨_, h1⟩
    | tip ty => obtain ⟨ccs, fr, h1, _⟩ := h; exact ⟨_, h1⟩
    | iter s pos => exact ⟨_, h.1⟩
    | raw ob => exact ⟨_, h⟩
    | own ty cs => obtain ⟨ccs, h1, _⟩ := h; exact ⟨_, h1⟩
  obtain ⟨x, hx⟩ := this
  exact (Array.getElem?_eq_some_iff.1 hx).1

theorem BR.of_block {G : Gh} {w w' : World} {b o : Nat} {blk : Blk} (hb : w'.heap[b]? = w.heap[b]?) (h : BR G w b o blk) : BR G w' b o blk := by
  cases blk with
  | cells cs => obtain ⟨ccs, ty, h1, h2⟩ := h; exact ⟨ccs, ty, hb.trans h1, h2⟩
  | tip ty => obtain ⟨ccs, fr, h1, h2⟩ := h; exact ⟨ccs, fr, hb.trans h1, h2⟩
  | iter s pos => exact ⟨hb.trans h.1, h.2⟩
  | raw ob => exact hb.trans h
  | own ty cs => obtain ⟨ccs, h1, h2⟩ := h; exact ⟨ccs, hb.trans h1, h2⟩

theorem SR.imm_lt {w0 w : World} {G : Gh} {R : Nat → Option Blk} (h : SR w0 G R w) {b off : Nat} {v : Value} (hm : G.M b off = some v) : b < w.heap.size := by
  have := h.imm b off v hm
  unfold World.cell? at this
  split at this
  · rename_i hb; exact (Array.getElem?_eq_some_iff.1 hb).1
  · cases this

theorem SR.sz_lt {w0 w : World} {G : Gh} {R : Nat → Option Blk} (h : SR w0 G R w) {b m : Nat} (hm : G.sz b = some m) : b < w.heap.size := by
  obtain ⟨ccs, ty, fr, h1, _⟩ := h.size b m hm
  exact (Array.getElem?_eq_some_iff.1 h1).1

theorem SR.io_lt {w0 w : World} {G : Gh} {R : Nat → Option Blk} (h : SR w0 G R w) {n b o : Nat} {blk : Blk} (hr : R n = some blk) (hm : G.io n = some (b, o)) : b < w.heap.size := by
  obtain ⟨b', o', h1, _, h2⟩ := h.res n blk hr
  rw [hm] at h1; cases h1
  exact h2.block

/-- A draw. -/
theorem SR.drawn {w0 w : World} {G : Gh} {R : Nat → Option Blk} (h : SR w0 G R w) (k : Nat) : SR w0 G R { w with drawn := k } :=
  ⟨⟨h.below.os, h.below.tape, h.below.output, h.below.size, h.below.block⟩, h.imm, h.size, h.res, h.apart, h.laid⟩

/-- Resources that are let go. -/
theorem SR.less {w0 w : World} {G : Gh} {R R' : Nat → Option Blk} (h : SR w0 G R w) (hR : ∀ n blk, R' n = some blk → R n = some blk) : SR w0 G R' w :=
  ⟨h.below, h.imm, h.size, fun n blk hn => h.res n blk (hR n blk hn), fun n m x y b o b' o' hn hm => h.apart n m x y b o b' o' (hR _ _ hn) (hR _ _ hm), h.laid⟩

/-- One block more. -/
structure One (w : World) (obj : Obj) (w' : World) : Prop where
  os : w'.os = w.os
  tape : w'.tape = w.tape
  output : w'.output = w.output
  size : w'.heap.size = w.heap.size + 1
  old : ∀ k, k < w.heap.size → w'.heap[k]? = w.heap[k]?
  new : w'.heap[w.heap.size]? = some obj

theorem One.push (w : World) (obj : Obj) : One w obj { w with heap := w.heap.push obj } :=
  ⟨rfl, rfl, rfl, by simp, fun b hb => by show (w.heap.push obj)[b]? = _; rw [Array.getElem?_push, if_neg (by omega)], by simp⟩

def Gh.ext (G : Gh) (b : Nat) (MM : Nat → Option Value) (msz : Option Nat) : Gh :=
  { M := fun c off => if c = b then MM off else G.M c off, io := G.io, sz := fun c => if c = b then msz else G.sz c }
def Gh.name (G : Gh) (n : Nat) (p : Nat × Nat) : Gh := { G with io := upd G.io n (some p) }

theorem Gh.name_ge {G : Gh} {n : Nat} (p : Nat × Nat) (hn : G.io n = none) : GE G (G.name n p) n (n + 1) := by
  refine ⟨fun m q hq => ?_, fun _ _ _ h => h, fun _ _ h => h, fun m hm => ?_⟩
  · show upd G.io n _ m = _
    unfold upd; rw [if_neg (by rintro rfl; rw [hn] at hq; cases hq)]; exact hq
  · show upd G.io n _ m = _
    unfold upd; rw [if_neg (by omega)]

theorem Gh.ext_ge {w0 w : World} {G : Gh} {R : Nat → Option Blk} (h : SR w0 G R w) (MM : Nat → Option Value) (msz : Option Nat) (lo hi : Nat) : GE G (G.ext w.heap.size MM msz) lo hi := by
  refine ⟨fun m p hp => hp, fun b off v hp => ?_, fun b m hp => ?_, fun m hm => rfl⟩
  · show (if b = w.heap.size then _ else _) = _
    rw [if_neg (by have := h.imm_lt hp; omega)]; exact hp
  · show (if b = w.heap.size then _ else _) = _
    rw [if_neg (by have := h.sz_lt hp; omega)]; exact hp

/-- A new block that is known for good, or of which nothing is known. -/
theorem SR.one {w0 w w' : World} {G : Gh} {R : Nat → Option Blk} (h : SR w0 G R w) {obj : Obj} (o : One w obj w')
    (msz : Option Nat) (hsz : ∀ m, msz = some m → ∃ ccs ty fr, obj = .cells ccs ty fr ∧ m ≤ ccs.size)
    (MM : Nat → Option Value) (hMM : ∀ off v, MM off = some v → ∃ ccs ty fr, obj = .cells ccs ty fr ∧ ccs[off]? = some v) : SR w0 (G.ext w.heap.size MM msz) R w' := by
  have hg := Gh.ext_ge h MM msz 0 0
  refine ⟨?_, ?_, ?_, ?_, ?_, h.laid⟩
  · exact h.below.trans ⟨o.os, o.tape, o.output, by have := o.size; omega, fun k hk => o.old k (by have := h.below.size; omega)⟩
  · intro b off v hv
    change (if b = w.heap.size then _ else _) = _ at hv
    by_cases hb : b = w.heap.size
    · rw [if_pos hb] at hv
      obtain ⟨ccs, ty, fr, rfl, hc⟩ := hMM off v hv
      subst hb
      simp [World.cell?, o.new, hc]
    · rw [if_neg hb] at hv
      have h1 := h.imm b off v hv
      rw [← h1]; exact World.cell?_of_block (w := w) (o.old b (h.imm_lt hv))
  · intro b m hm
    change (if b = w.heap.size then _ else _) = _ at hm
    by_cases hb : b = w.heap.size
    · rw [if_pos hb] at hm
      obtain ⟨ccs, ty, fr, rfl, hc⟩ := hsz m hm
      subst hb
      exact ⟨ccs, ty, fr, o.new, hc⟩
    · rw [if_neg hb] at hm
      obtain ⟨ccs, ty, fr, h1, h2⟩ := h.size b m hm
      exact ⟨ccs, ty, fr, (o.old b (h.sz_lt hm)).trans h1, h2⟩
  · intro m x hm
    obtain ⟨b, o', h1, h2, h3⟩ := h.res m x hm
    have hlt := h3.block
    refine ⟨b, o', h1, h2, (BR.of_block (w := w) (o.old b hlt) h3).mono hg (fun off _ hoff => ?_)⟩
    show (if b = w.heap.size then _ else _) = _
    rw [if_neg (by omega)]; exact hoff
  · exact h.apart

/-- A block that nobody names gets a name. -/
theorem SR.named {w0 w : World} {G : Gh} {R : Nat → Option Blk} (h : SR w0 G R w) (n : Nat) (hn : G.io n = none) (hRn : R n = none) (b o : Nat) (blk : Blk) (hb : w0.heap.size ≤ b) (hblk : BR G w b o blk)
    (hap : ∀ m x b' o', R m = some x → G.io m = some (b', o') → b' ≠ b) : SR w0 (G.name n (b, o)) (upd R n (some blk)) w := by
  have hg := Gh.name_ge (b, o) hn
  have key : ∀ m z c oc, upd R n (some blk) m = some z → m ≠ n → (G.name n (b, o)).io m = some (c, oc) → R m = some z ∧ G.io m = some (c, oc) := by
    intro m z c oc hz hmn hio
    simp only [upd, if_neg hmn] at hz
    exact ⟨hz, by simpa [Gh.name, upd, if_neg hmn] using hio⟩
  have self : ∀ c oc, (G.name n (b, o)).io n = some (c, oc) → c = b := by
    intro c oc hio; simp [Gh.name, upd] at hio; exact hio.1.symm
  refine ⟨h.below, h.imm, h.size, ?_, ?_, h.laid⟩
  · intro m x hm
    by_cases e : m = n
    · subst e
      simp only [upd, if_true, Option.some.injEq] at hm
      subst hm
      exact ⟨b, o, by simp [Gh.name, upd], hb, hblk.mono hg (fun _ _ h => h)⟩
    · simp only [upd, if_neg e] at hm
      obtain ⟨c, oc, h1, h2, h3⟩ := h.res m x hm
      exact ⟨c, oc, hg.io _ _ h1, h2, h3.mono hg (fun _ _ h => h)⟩
  · intro m1 m2 x y c1 o1 c2 o2 hx hy hne h1 h2
    by_cases e1 : m1 = n
    · subst e1
      obtain ⟨a1, a2⟩ := key m2 y c2 o2 hy (Ne.symm hne) h2
      rw [self _ _ h1]
      exact (hap m2 y c2 o2 a1 a2).symm
    · by_cases e2 : m2 = n
      · subst e2
        obtain ⟨a1, a2⟩ := key m1 x c1 o1 hx e1 h1
        rw [self _ _ h2]
        exact hap m1 x c1 o1 a1 a2
      · obtain ⟨a1, a2⟩ := key m1 x c1 o1 hx e1 h1
        obtain ⟨a3, a4⟩ := key m2 y c2 o2 hy e2 h2
        exact h.apart m1 m2 x y c1 o1 c2 o2 a1 a3 hne a2 a4

/-- A new block with a name of its own. -/
theorem SR.push {w0 w w' : World} {G : Gh} {R : Nat → Option Blk} (h : SR w0 G R w) {obj : Obj} (on : One w obj w') (n : Nat) (blk : Blk) (o : Nat) (hn : G.io n = none) (hRn : R n = none)
    (msz : Option Nat) (hsz : ∀ m, msz = some m → ∃ ccs ty fr, obj = .cells ccs ty fr ∧ m ≤ ccs.size)
    (MM : Nat → Option Value) (hMM : ∀ off v, MM off = some v → ∃ ccs ty fr, obj = .cells ccs ty fr ∧ ccs[off]? = some v)
    (hblk : ∀ G', GE G G' n (n + 1) → (∀ off, G'.M w.heap.size off = MM off) → BR G' w' w.heap.size o blk) :
    GE G ((G.ext w.heap.size MM msz).name n (w.heap.size, o)) n (n + 1) ∧ SR w0 ((G.ext w.heap.size MM msz).name n (w.heap.size, o)) (upd R n (some blk)) w' := by
  have h1 := h.one on msz hsz MM hMM
  have g1 := Gh.ext_ge h MM msz n (n + 1)
  have g2 : GE (G.ext w.heap.size MM msz) ((G.ext w.heap.size MM msz).name n (w.heap.size, o)) n (n + 1) := Gh.name_ge _ hn
  refine ⟨⟨fun m p hp => g2.io _ _ (g1.io _ _ hp), fun b off v hp => g2.M _ _ _ (g1.M _ _ _ hp), fun b m hp => g2.sz _ _ (g1.sz _ _ hp), fun m hm => (g2.new m hm).trans (g1.new m hm)⟩, ?_⟩
  exact h1.named n hn hRn w.heap.size o blk h.below.size (hblk _ g1 (fun off => by simp [Gh.ext])) (fun m x b' o' hm hio => by
    have := h.io_lt (n := m) hm (by exact hio); omega)
end Go.Proofs.Ytfphpjinimfhfaa.VM
