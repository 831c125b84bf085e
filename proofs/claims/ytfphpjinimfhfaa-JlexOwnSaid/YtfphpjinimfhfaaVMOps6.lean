import Derived.Test.YtfphpjinimfhfaaVMOps5
/-! Variables in memory, iterators, append, copy. -/
namespace Go.Proofs.Ytfphpjinimfhfaa.VM
set_option linter.unusedSectionVars false
set_option linter.unusedSimpArgs false
set_option linter.unusedVariables false
open Go.RowKit
variable [Glob]
section
variable {P : Program} {w0 w : World} {G : Gh} {F : Nat → Option Blk} {S S' : St}

/-- What a block holds is known for good, if nobody names it. -/
theorem SR.learn {R : Nat → Option Blk} (h : SR w0 G R w) {b : Nat} {ccs : Array Value} {ty : TypeId} {fr : Nat × Nat} (hb : w.heap[b]? = some (.cells ccs ty fr)) (hap : ∀ m x b' o', R m = some x → G.io m = some (b', o') → b' ≠ b) :
    ∃ G', (∀ lo hi, GE G G' lo hi) ∧ SR w0 G' R w ∧ ∀ i, i < ccs.size → G'.M b i = some (ccs.getD i Go.undef) := by
  let G' : Gh := { M := fun c off => if c = b then (if off < ccs.size then some (ccs.getD off Go.undef) else G.M c off) else G.M c off, io := G.io, sz := G.sz }
  have hcell : ∀ off, off < ccs.size → w.cell? ⟨b, off, none⟩ = some (ccs.getD off Go.undef) := fun off ho => by
    simp [World.cell?, hb, Array.getD, ho]
  have hg : ∀ lo hi, GE G G' lo hi := fun lo hi => ⟨fun n p hp => hp, fun c off v hv => by
    show (if c = b then _ else _) = _
    by_cases e : c = b
    · subst e
      rw [if_pos rfl]
      by_cases ho : off < ccs.size
      · rw [if_pos ho]
        have := h.imm c off v hv
        rw [hcell off ho] at this
        exact this
      · rw [if_neg ho]; exact hv
    · rw [if_neg e]; exact hv, fun c m hm => hm, fun _ _ => rfl⟩
  refine ⟨G', hg, ⟨h.below, ?_, h.size, ?_, h.apart, h.laid⟩, fun i hi => ?_⟩
  · intro c off v hv
    change (if c = b then _ else _) = _ at hv
    by_cases e : c = b
    · subst e
      rw [if_pos rfl] at hv
      by_cases ho : off < ccs.size
      · rw [if_pos ho] at hv; rw [hcell off ho]; exact hv
      · rw [if_neg ho] at hv; exact h.imm c off v hv
    · rw [if_neg e] at hv; exact h.imm c off v hv
  · intro n blk hn
    obtain ⟨b', o', h1, h2, h3⟩ := h.res n blk hn
    have hne := hap n blk b' o' hn h1
    refine ⟨b', o', h1, h2, h3.mono (hg 0 0) (fun off _ hoff => ?_)⟩
    show (if b' = b then _ else _) = _
    rw [if_neg hne]; exact hoff
  · show (if b = b then _ else _) = _
    rw [if_pos rfl, if_pos hi]


/-- Another mark on a block that nobody names. -/
theorem SR.refr {R : Nat → Option Blk} (h : SR w0 G R w) {b : Nat} {ccs : Array Value} {ty : TypeId} {fr fr' : Nat × Nat} (hb : w.heap[b]? = some (.cells ccs ty fr)) (hge : w0.heap.size ≤ b) (hap : ∀ m x b' o', R m = some x → G.io m = some (b', o') → b' ≠ b)
    {w' : World} (hos : w'.os = w.os) (htape : w'.tape = w.tape) (hout : w'.output = w.output) (hsz : w'.heap.size = w.heap.size) (hoth : ∀ k, k ≠ b → w'.heap[k]? = w.heap[k]?) (hb' : w'.heap[b]? = some (.cells ccs ty fr')) : SR w0 G R w' := by
  have hcell : ∀ k off, w'.cell? ⟨k, off, none⟩ = w.cell? ⟨k, off, none⟩ := fun k off => by
    by_cases hk : k = b
    · subst hk; rw [cell_of hb', cell_of hb]
    · exact World.cell?_of_block (w := w) (hoth k hk)
  refine ⟨h.below.trans ?_, fun k off v hv => by rw [hcell]; exact h.imm _ _ _ hv, fun k m hm => ?_, fun n blk hn => ?_, h.apart, h.laid⟩
  · exact ⟨hos, htape, hout, by rw [hsz]; exact Nat.le_refl _, fun k hk => hoth k (by omega)⟩
  · obtain ⟨c2, t2, f2, e1, e2⟩ := h.size k m hm
    by_cases hk : k = b
    · subst hk; rw [hb] at e1; cases e1; exact ⟨_, _, _, hb', e2⟩
    · exact ⟨c2, t2, f2, (hoth k hk).trans e1, e2⟩
  · obtain ⟨b2, o2, h1, h2, h3⟩ := h.res n blk hn
    exact ⟨b2, o2, h1, h2, BR.of_block (hoth b2 (hap n blk b2 o2 hn h1)) h3⟩

theorem sim_alloc (h : SR w0 G (ov S.mem F) w) (hwf : Wf S) {t : TypeId} {z : AV} (hz : zeroA P t = some z) (hFO : FO S F (S.next + 1)) (hFN : FN G S.next (S.next + 1)) (own : Bool) :
    GoodV w0 F G S (S.new (if own = true then .own t z.cells else .cells z.cells)) (.ptr S.next 0) ((Instr.alloc t true (.tuple #[])).run P w) := by
  obtain ⟨i, c, _, _, hzc, _, hcz⟩ := Cells.zero (G := G) hz w
  cases own
  · obtain ⟨G', h1, h2, h3, h4, h5⟩ := new_cells (F := F) h hwf hFO hFN t z.cells c.cells (Nat.le_of_eq hcz.len) hcz.at_ (One.push w (.cells c.cells t))
    refine ⟨.pointer (some ⟨w.heap.size, 0, none⟩), _, G', ?_, VR.ptr S.next 0 w.heap.size 0 h3, h1, h2, h5⟩
    simp [Instr.alloc, hzc, newVar, newRow]
  · obtain ⟨G', h1, h2, h3, h4, h5⟩ := new_own (F := F) h hwf hFO hFN t z.cells c.cells hcz.len hcz.at_ (One.push w (.cells c.cells t))
    refine ⟨.pointer (some ⟨w.heap.size, 0, none⟩), _, G', ?_, VR.ptr S.next 0 w.heap.size 0 h3, h1, h2, h5⟩
    simp [Instr.alloc, hzc, newVar, newRow]

theorem sim_box (h : SR w0 G (ov S.mem F) w) (hwf : Wf S) {t : TypeId} {v : AV} {c : Value} (hv : VR G v c) (hk : v.known = true) (hFO : FO S F (S.next + 1)) (hFN : FN G S.next (S.next + 1)) :
    GoodV w0 F G S (S.new (.cells v.cells)) (.ptr S.next 0) ((Instr.box t c).run P w) := by
  have hcz := Cells.of_cells hv hk
  obtain ⟨G', h1, h2, h3, h4, h5⟩ := new_cells (F := F) h hwf hFO hFN t v.cells c.cells (Nat.le_of_eq hcz.len) hcz.at_ (One.push w (.cells c.cells t))
  refine ⟨.pointer (some ⟨w.heap.size, 0, none⟩), _, G', ?_, VR.ptr S.next 0 w.heap.size 0 h3, h1, h2, h5⟩
  simp [Instr.box, newVar, newRow]

theorem sim_box_ro (h : SR w0 G (ov S.mem F) w) (hwf : Wf S) {t : TypeId} {v : AV} {c : Value} (hv : VR G v c) (hk : v.known = true) :
    GoodV w0 F G S S (.cptr v.cells 0) ((Instr.box t c).run P w) := by
  have hcz := Cells.of_cells hv hk
  have h1 := h.one (One.push w (.cells c.cells t)) none (fun m hm => by cases hm) (fun off => if off < v.cells.length then c.cells[off]? else none) (fun off x hx => by
    split at hx
    · exact ⟨_, _, _, rfl, hx⟩
    · cases hx)
  have g := Gh.ext_ge h (fun off => if off < v.cells.length then c.cells[off]? else none) none S.next S.next
  refine ⟨.pointer (some ⟨w.heap.size, 0, none⟩), _, _, ?_, VR.cptr v.cells 0 w.heap.size 0 (fun i => c.cells.getD i Go.undef) (fun i hi => ?_) (fun i hi => (hcz.at_ i hi).mono g), g, h1, Grow.refl hwf⟩
  · simp [Instr.box, newVar, newRow]
  · have : i < c.cells.size := by rw [← hcz.len]; exact hi
    simp [Gh.ext, hi, Array.getD, this]

theorem grow_new (hwf : Wf S) (b : Blk) : Grow S (S.new b) := by
  refine ⟨by simp [St.new], fun n hn hm => ?_, fun n hn => ?_⟩
  · show upd S.mem S.next _ n = none
    unfold upd; rw [if_neg (by omega)]; exact hm
  · show upd S.mem S.next _ n = none
    have : S.next + 1 ≤ n := hn
    unfold upd; rw [if_neg (by omega)]; exact hwf n (by omega)
theorem ov_next (hwf : Wf S) {hi : Nat} (hFO : FO S F hi) (hlt : S.next < hi) : ov S.mem F S.next = none := by
  unfold ov
  rw [hwf _ (Nat.le_refl _)]
  cases hf : F S.next with
  | none => rfl
  | some x => have := (hFO _ _ hf).2; omega

theorem sim_range (h : SR w0 G (ov S.mem F) w) (hwf : Wf S) {t : TypeId} (hu : P.underlying t = some .string) (s : List UInt8) (hFO : FO S F (S.next + 1)) (hFN : FN G S.next (S.next + 1)) :
    GoodV w0 F G S (S.new (.iter s 0)) (.iter S.next) ((Instr.range t (.string ⟨s.toArray⟩)).run P w) := by
  obtain ⟨h1, h2⟩ := h.push (One.push w (.stringIter ⟨s.toArray⟩ 0)) S.next (.iter s 0) 0 (hFN _ (Nat.le_refl _) (by omega)) (ov_next hwf hFO (by omega)) none (fun m hm => by cases hm) (fun _ => none) (fun _ _ h => by cases h)
    (fun G' hG' hM => ⟨(One.push w _).new, rfl⟩)
  refine ⟨.pointer (some ⟨w.heap.size, 0, none⟩), _, _, ?_, VR.iter S.next w.heap.size (by simp [Gh.name, upd]), h1, by rw [ov_upd] at h2; exact h2, grow_new hwf _⟩
  simp [Instr.range, und_run hu]

theorem sim_next (h : SR w0 G (ov S.mem F) w) (hwf : Wf S) {x v : AV} {c : Value} (hx : VR G x c) (hn : nextA S x = some (v, S')) (ty : TypeId) : GoodV w0 F G S S' v ((Instr.next c true ty).run P w) := by
  unfold nextA at hn
  split at hn
  case h_2 => cases hn
  rename_i n
  split at hn
  case h_2 => cases hn
  rename_i s pos hm
  cases hx with
  | iter _ b hio =>
    obtain ⟨b', o', e1, hge, hb, _⟩ := h.res n _ (ov_some hm)
    rw [hio] at e1; cases e1
    have hget : (getObj b).run P w = .ok (.stringIter ⟨s.toArray⟩ pos) w := by simp [getObj, Sem.run, hb]
    split at hn
    · rename_i hlt
      cases hn
      have hblt : b < w.heap.size := (Array.getElem?_eq_some_iff.1 hb).1
      have hset : ∀ o : Obj, (setObj b o).run P w = .ok () { w with heap := w.heap.setIfInBounds b o } := by intro o; simp [setObj, Sem.run, hb]
      refine ⟨.tuple #[.bool true, .int .i64 pos, .int .i32 (Utf8.decode ⟨s.toArray⟩ pos).1], { w with heap := w.heap.setIfInBounds b (.stringIter ⟨s.toArray⟩ (pos + (Utf8.decode ⟨s.toArray⟩ pos).2)) }, G, ?_, ?_, GE.refl _ _ _, ?_, ?_⟩
      · simp only [Instr.next, Sem.run_bind, hget, Result.andThen_ok, size_mk, hlt, if_true, hset, Sem.run_pure, goInt]
      · refine .tuple _ _ rfl (fun i hi => ?_)
        match i, hi with
        | 0, _ => exact .bool true
        | 1, _ => exact .int _ _
        | 2, _ => exact .int _ _
      · have : (St.set S n (some (.iter s (pos + (Utf8.decode ⟨s.toArray⟩ pos).2)))).mem = upd S.mem n (some (.iter s (pos + (Utf8.decode ⟨s.toArray⟩ pos).2))) := rfl
        rw [this, ← ov_upd]
        refine h.turn (ov_some hm) hio rfl rfl rfl (by simp) (fun k hk => by simp [Array.getElem?_setIfInBounds, Ne.symm hk]) (fun off v hM => ?_) (fun m hz => ?_) ⟨by simp [Array.getElem?_setIfInBounds, hblt], rfl⟩
        · have := h.imm b off v hM
          simp [World.cell?, hb] at this
        · obtain ⟨ccs, ty, fr, e2, _⟩ := h.size b m hz
          rw [hb] at e2; cases e2
      · refine ⟨Nat.le_refl _, fun m _ hm' => ?_, fun m hm' => ?_⟩
        · show upd S.mem n _ m = none
          unfold upd; split
          · rename_i e; subst e; rw [hm] at hm'; cases hm'
          · exact hm'
        · show upd S.mem n _ m = none
          unfold upd; split
          · rename_i e; subst e; have := hwf _ hm'; rw [hm] at this; cases this
          · exact hwf m hm'
    · rename_i hge'
      cases hn
      refine .quiet h hwf (c := .tuple #[.bool false]) ?_ (.tuple _ _ rfl (fun i hi => ?_))
      · simp only [Instr.next, Sem.run_bind, hget, Result.andThen_ok, size_mk, hge', if_false, Sem.run_pure]
      · match i, hi with
        | 0, _ => exact .bool false

/-! ### append -/
/-- A resource let go, its block turned. -/
theorem SR.drop_turn {R : Nat → Option Blk} (h : SR w0 G R w) {n b o : Nat} {blk0 : Blk} (hn : R n = some blk0) (hio : G.io n = some (b, o)) {w' : World}
    (hos : w'.os = w.os) (htape : w'.tape = w.tape) (hout : w'.output = w.output) (hsz : w'.heap.size = w.heap.size) (hoth : ∀ k, k ≠ b → w'.heap[k]? = w.heap[k]?)
    (himm : ∀ off v, G.M b off = some v → w'.cell? ⟨b, off, none⟩ = some v) (hsize : ∀ m, G.sz b = some m → ∃ ccs ty fr, w'.heap[b]? = some (.cells ccs ty fr) ∧ m ≤ ccs.size) :
    SR w0 G (upd R n none) w' := by
  obtain ⟨b', o', h1, hge, _⟩ := h.res n blk0 hn
  rw [hio] at h1; cases h1
  have key : ∀ m z, upd R n none m = some z → m ≠ n ∧ R m = some z := by
    intro m z hz
    by_cases e : m = n
    · subst e; simp [upd] at hz
    · exact ⟨e, by simpa [upd, e] using hz⟩
  refine ⟨h.below.trans ⟨hos, htape, hout, by omega, fun k hk => hoth k (by omega)⟩, ?_, ?_, ?_, ?_, h.laid⟩
  · intro c off v hv
    by_cases e : c = b
    · subst e; exact himm off v hv
    · rw [World.cell?_of_block (w := w) (hoth c e)]; exact h.imm c off v hv
  · intro c m hm
    by_cases e : c = b
    · subst e; exact hsize m hm
    · rw [hoth c e]; exact h.size c m hm
  · intro m x hm
    obtain ⟨e, hm⟩ := key m x hm
    obtain ⟨c, oc, h1, h2, h3⟩ := h.res m x hm
    exact ⟨c, oc, h1, h2, BR.of_block (hoth c (h.apart m n x blk0 c oc b o hm hn e h1 hio)) h3⟩
  · intro m1 m2 x y c oc c' oc' hx hy hne h1 h2
    exact h.apart m1 m2 x y c oc c' oc' (key _ _ hx).2 (key _ _ hy).2 hne h1 h2

def Gh.know (G : Gh) (b : Nat) (MM : Nat → Option Value) : Gh :=
  { G with M := fun c off => if c = b then (match MM off with | some v => some v | none => G.M c off) else G.M c off }

/-- More cells of a block that no resource names are known for good. -/
theorem SR.know {R : Nat → Option Blk} (h : SR w0 G R w) (b : Nat) (MM : Nat → Option Value) (hMM : ∀ off v, MM off = some v → w.cell? ⟨b, off, none⟩ = some v ∧ ∀ u, G.M b off = some u → u = v)
    (hap : ∀ m x b' o', R m = some x → G.io m = some (b', o') → b' ≠ b) : (∀ lo hi, GE G (G.know b MM) lo hi) ∧ SR w0 (G.know b MM) R w := by
  have hg : ∀ lo hi, GE G (G.know b MM) lo hi := by
    intro lo hi
    refine ⟨fun _ _ h => h, fun c off v hv => ?_, fun _ _ h => h, fun _ _ => rfl⟩
    show (if c = b then _ else _) = _
    split
    · rename_i e; subst e
      cases hmm : MM off with
      | none => exact hv
      | some u => show some u = some v; rw [(hMM off u hmm).2 v hv]
    · exact hv
  refine ⟨hg, h.below, ?_, h.size, ?_, h.apart, h.laid⟩
  · intro c off v hv
    change (if c = b then _ else _) = _ at hv
    split at hv
    · rename_i e; subst e
      cases hmm : MM off with
      | none => rw [hmm] at hv; exact h.imm _ _ _ hv
      | some u => rw [hmm] at hv; cases hv; exact (hMM off v hmm).1
    · exact h.imm _ _ _ hv
  · intro m x hm
    obtain ⟨c, oc, h1, h2, h3⟩ := h.res m x hm
    refine ⟨c, oc, h1, h2, h3.mono (hg 0 0) (fun off _ hoff => ?_)⟩
    show (if c = b then _ else _) = _
    rw [if_neg (hap m x c oc hm h1)]; exact hoff

theorem wellA_mem {s : Nat} {xs : List AV} (h : wellA s xs = true) : ∀ x ∈ xs, x.cells.length = s ∧ ∀ c ∈ x.cells, c.leafOk = true := by
  intro x hx
  have := List.all_eq_true.1 h x hx
  simp only [Bool.and_eq_true, decide_eq_true_eq, List.all_eq_true] at this
  exact this
theorem wellA_flat {s : Nat} {xs : List AV} (h : wellA s xs = true) : (flat xs).length = xs.length * s ∧ ∀ c ∈ flat xs, c.leafOk = true := by
  refine ⟨flat_len xs (fun x hx => (wellA_mem h x hx).1), fun c hc => ?_⟩
  obtain ⟨x, hx, hc⟩ := List.mem_flatMap.1 hc
  exact (wellA_mem h x hx).2 c hc

theorem src_mk {tx : TypeId} (hk : (∃ e', P.underlying tx = some (.slice e')) ∨ P.underlying tx = some .string) {s : Nat} {d : Value} {ys : List AV} (hwell : wellA s ys = true) (news : List Value)
    (hl : news.length = (flat ys).length) (hv : ∀ i (hi : i < (flat ys).length), VR G (flat ys)[i] (news.getD i Go.undef))
    (hlen : ∀ w' : World, (Builtin.lenOf d).run P w' = .ok ys.length w') (h1 : (Builtin.firstCells s ys.length d).run P w = .ok news.toArray w) (h2 : (Builtin.firstCells s ys.length d).run P w.drew = .ok news.toArray w.drew) :
    Src P s tx d ys.length news w := by
  obtain ⟨k1, k2⟩ := wellA_flat hwell
  refine ⟨hk, hlen, h1, h2, by rw [hl, k1], fun u hu => ?_⟩
  obtain ⟨i, hi, rfl⟩ := List.getElem_of_mem hu
  have := hv i (by omega)
  simp only [List.getD, List.getElem?_eq_getElem hi, Option.getD_some] at this
  exact this.leaf (k2 _ (List.getElem_mem (by omega)))

/-- What the second argument of an append yields. -/
theorem src_of (h : SR w0 G (ov S.mem F) w) {tx : TypeId} (hk : (∃ e', P.underlying tx = some (.slice e')) ∨ P.underlying tx = some .string) {s : Nat} {ag : Bool} {y : AV} {d : Value} (hy : VR G y d) {ys : List AV} (he : elemsA S ag s y = some ys)
    (hwell : wellA s (ys.map AV.shed) = true) :
    ∃ news, Src P s tx d ys.length news w ∧ news.length = (flat (ys.map AV.shed)).length ∧ ∀ i (hi : i < (flat (ys.map AV.shed)).length), VR G (flat (ys.map AV.shed))[i] (news.getD i Go.undef) := by
  have e0 : (ys.map AV.shed).length = ys.length := by simp
  have fin : ∀ news : List Value, news.length = (flat (ys.map AV.shed)).length → (∀ i (hi : i < (flat (ys.map AV.shed)).length), VR G (flat (ys.map AV.shed))[i] (news.getD i Go.undef)) →
      (∀ w' : World, (Builtin.lenOf d).run P w' = .ok ys.length w') → (Builtin.firstCells s ys.length d).run P w = .ok news.toArray w → (Builtin.firstCells s ys.length d).run P w.drew = .ok news.toArray w.drew →
      ∃ news, Src P s tx d ys.length news w ∧ news.length = (flat (ys.map AV.shed)).length ∧ ∀ i (hi : i < (flat (ys.map AV.shed)).length), VR G (flat (ys.map AV.shed))[i] (news.getD i Go.undef) := by
    intro news hl hv k1 k2 k3
    have := src_mk (P := P) (G := G) (w := w) hk (d := d) hwell news hl hv (by rw [e0]; exact k1) (by rw [e0]; exact k2) (by rw [e0]; exact k3)
    rw [e0] at this
    exact ⟨news, this, hl, hv⟩
  have hfl : (flat (ys.map AV.shed)).length = ys.length * s := by rw [(wellA_flat hwell).1, e0]
  unfold elemsA at he
  split at he
  · cases he; cases hy
    exact fin [] rfl (fun i hi => by simp [flat] at hi) (fun _ => rfl) (run_firstCells_none w s 0 0 0) (run_firstCells_none w.drew s 0 0 0)
  · cases he
    cases hy with
    | elst _ a cap ht => exact fin [] rfl (fun i hi => by simp [flat] at hi) (fun _ => rfl) (run_firstCells_some w s 0 a 0 cap [] (by simp) (by simp)) (run_firstCells_some w.drew s 0 a 0 cap [] (by simp) (by simp))
    | lst _ _ b o cap s' val hc hs' hm hv ht =>
      have e1 : (flat (ys.map AV.shed)) = (flat ys).map AV.shedLeaf := flat_shed ys
      have e2 : (flat ys).length = ys.length * s := by rw [← hfl, e1]; simp
      have hcell : ∀ (w' : World), (∀ i, i < (flat ys).length → w'.cell? ⟨b, o + i, none⟩ = some (val i)) → ∀ j u, ((List.range (flat ys).length).map val)[j]? = some u → w'.cell? ((⟨b, o, none⟩ : Addr).add j) = some u := by
        intro w' hw' j u hu
        obtain ⟨hj, rfl⟩ := List.getElem?_eq_some_iff.1 hu
        have hj' : j < (flat ys).length := by simpa using hj
        rw [add_eq, hw' j hj']
        simp
      refine fin ((List.range (flat ys).length).map val) (by rw [e1]; simp) (fun i hi => ?_) (fun _ => rfl) ?_ ?_
      · have hi' : i < (flat ys).length := by rw [e1] at hi; simpa using hi
        simp only [e1, List.getElem_map]
        have := (hv i hi').shedLeaf
        simpa [List.getD, hi'] using this
      · exact run_firstCells_some w s ys.length ⟨b, o, none⟩ ys.length cap _ (by simp [e2]) (hcell w (fun i hi => h.imm _ _ _ (hm i hi)))
      · exact run_firstCells_some w.drew s ys.length ⟨b, o, none⟩ ys.length cap _ (by simp [e2]) (hcell w.drew (fun i hi => by simpa using h.imm _ _ _ (hm i hi)))
  · rename_i n off len s'
    replace he := Option.bind_eq_some_iff.1 he; obtain ⟨cs, hcs, he⟩ := he
    split at he
    case isFalse => cases he
    rename_i hif
    obtain ⟨rfl, hle, hok⟩ := hif
    cases he
    cases hy with
    | hnd _ _ _ _ b o cap m hio hc hz hm =>
      obtain ⟨_, ccs, ty, hb, hlen, hv, _⟩ := h.cellsAt hcs hio
      obtain ⟨k1, k2, k3⟩ := chunk_ok hok len (cs.drop off) (fun c hc => List.mem_of_mem_drop hc) (by simp; omega)
      have e1 : (flat ((chunk ag s' len (cs.drop off)).map AV.shed)) = ((cs.drop off).take (len * s')).map AV.shedLeaf := by rw [flat_shed, k1]
      have e3 : len * s' ≤ cs.length - off := by omega
      have hcell : ∀ (w' : World), (∀ i, w'.cell? ⟨b, i, none⟩ = w.cell? ⟨b, i, none⟩) → ∀ j u, ((List.range (len * s')).map fun i => ccs.getD (o + off + i) Go.undef)[j]? = some u → w'.cell? ((⟨b, o + off, none⟩ : Addr).add j) = some u := by
        intro w' hw' j u hu
        obtain ⟨hj, rfl⟩ := List.getElem?_eq_some_iff.1 hu
        have hj' : j < len * s' := by simpa using hj
        rw [add_eq, hw', cell_of hb, getD_some (by omega)]
        simp
      have hfin := fin ((List.range (len * s')).map fun i => ccs.getD (o + off + i) Go.undef) (by rw [e1]; simp; omega) (fun i hi => ?_) (fun _ => by rw [k2]; rfl) ?_ ?_
      · exact hfin
      · have hi' : i < len * s' := by rw [e1] at hi; simp at hi; omega
        simp only [e1, List.getElem_map, List.getElem_take, List.getElem_drop]
        have := (hv (off + i) (by omega)).shedLeaf
        simpa [List.getD, hi', Nat.add_assoc] using this
      · rw [k2]; exact run_firstCells_some w s' len ⟨b, o + off, none⟩ len cap _ (by simp) (hcell w (fun _ => rfl))
      · rw [k2]; exact run_firstCells_some w.drew s' len ⟨b, o + off, none⟩ len cap _ (by simp) (hcell w.drew (fun _ => by simp))
  · rename_i bs
    split at he
    case isFalse => cases he
    rename_i hs1
    subst hs1
    cases he
    cases hy
    have e1 : (bs.map fun c => AV.int .u8 c.toNat).map AV.shed = bs.map fun c => AV.int .u8 c.toNat := by
      rw [List.map_map]; rfl
    have e2 : flat (bs.map fun c => AV.int .u8 c.toNat) = bs.map fun c => AV.int .u8 c.toNat := flat_leaf _ (fun x hx => by obtain ⟨c, _, rfl⟩ := List.mem_map.1 hx; rfl)
    have e3 : ∀ w' : World, (Builtin.firstCells 1 bs.length (.string ⟨bs.toArray⟩)).run P w' = .ok (byteCells ⟨bs.toArray⟩).toArray w' := by
      intro w'
      have := firstCells_string (P := P) ⟨bs.toArray⟩ w'
      rwa [size_mk] at this
    refine fin (byteCells ⟨bs.toArray⟩) (by rw [e1, e2]; simp [byteCells]) (fun i hi => ?_) (fun _ => by simp [Builtin.lenOf, size_mk]) (by simpa using e3 w) (by simpa using e3 w.drew)
    simp only [e1, e2, List.getElem_map]
    have hi' : i < bs.length := by rw [e1, e2] at hi; simpa using hi
    have : (byteCells ⟨bs.toArray⟩).getD i Go.undef = .int .u8 (bs[i].toNat) := by simp [byteCells, List.getD, hi']
    rw [this]
    exact .int _ _
  · cases he

theorem arr_getD (a : Array Value) (i : Nat) : a.getD i Go.undef = (a[i]?).getD Go.undef := by
  by_cases h : i < a.size <;> simp [Array.getD, h]

theorem setCells_block (b : Nat) : ∀ (vs : List Value) (o : Nat) (w : World) (ccs : Array Value) (ty : TypeId) (fr : Nat × Nat), w.heap[b]? = some (.cells ccs ty fr) →
    ∃ ccs', (w.setCells b o vs).heap[b]? = some (.cells ccs' ty fr) ∧ ccs'.size = ccs.size ∧ (∀ k, k ≠ b → (w.setCells b o vs).heap[k]? = w.heap[k]?) ∧ (w.setCells b o vs).heap.size = w.heap.size ∧
      (w.setCells b o vs).os = w.os ∧ (w.setCells b o vs).tape = w.tape ∧ (w.setCells b o vs).output = w.output ∧ ∀ i, ccs'[i]? = if o ≤ i ∧ i < o + vs.length ∧ i < ccs.size then vs[i - o]? else ccs[i]?
  | [], o, w, ccs, ty, fr, h => ⟨ccs, h, rfl, fun _ _ => rfl, rfl, rfl, rfl, rfl, fun i => by rw [if_neg (by simp; omega)]⟩
  | v :: vs, o, w, ccs, ty, fr, h => by
    have hlt : b < w.heap.size := (Array.getElem?_eq_some_iff.1 h).1
    have h1 : (w.setCell ⟨b, o, none⟩ v).heap[b]? = some (.cells (ccs.setIfInBounds o v) ty fr) := by
      simp only [World.setCell, Array.getElem?_modify, if_true, h, Option.map_some]
      rfl
    obtain ⟨ccs', e1, e2, e3, e4, e5, e6, e7, e8⟩ := setCells_block b vs (o + 1) (w.setCell ⟨b, o, none⟩ v) _ ty fr h1
    refine ⟨ccs', e1, by simpa using e2, fun k hk => ?_, by rw [World.setCells, e4]; simp [World.setCell], e5, e6, e7, fun i => ?_⟩
    · rw [World.setCells, e3 k hk]
      simp only [World.setCell, Array.getElem?_modify, if_neg (Ne.symm hk)]
    · rw [e8 i, Array.getElem?_setIfInBounds]
      have hz : (ccs.setIfInBounds o v).size = ccs.size := by simp
      have hlen : (v :: vs).length = vs.length + 1 := rfl
      rw [hz, hlen]
      by_cases hio : o = i
      · subst hio
        have hc1 : ¬ (o + 1 ≤ o ∧ o < o + 1 + vs.length ∧ o < ccs.size) := by omega
        rw [if_neg hc1, if_pos rfl]
        by_cases hc : o < ccs.size
        · have hc2 : o ≤ o ∧ o < o + (vs.length + 1) ∧ o < ccs.size := by omega
          rw [if_pos hc2, if_pos hc]; simp
        · have hc2 : ¬ (o ≤ o ∧ o < o + (vs.length + 1) ∧ o < ccs.size) := by omega
          rw [if_neg hc2, if_neg hc]
          simp [hc]
      · rw [if_neg hio]
        by_cases hc : o + 1 ≤ i ∧ i < o + 1 + vs.length ∧ i < ccs.size
        · have hc2 : o ≤ i ∧ i < o + (vs.length + 1) ∧ i < ccs.size := by omega
          rw [if_pos hc, if_pos hc2, show i - o = (i - (o + 1)) + 1 by omega, List.getElem?_cons_succ]
        · have hc2 : ¬ (o ≤ i ∧ i < o + (vs.length + 1) ∧ i < ccs.size) := by omega
          rw [if_neg hc, if_neg hc2]

/-- A fresh row behind an append. -/
theorem fresh_good (C : Cfg) (f : FuncId) (h : SR w0 G (ov S.mem F) w) (hwf : Wf S) (zs : List AV) (s : Nat) (hs : ∀ x ∈ zs, x.cells.length = s) (hpos : 0 < zs.length) (all : List Value) (hl : all.length = (flat zs).length)
    (hv : ∀ i (hi : i < (flat zs).length), VR G (flat zs)[i] (all.getD i Go.undef)) (arr : Array Value) (harr : ∀ i, i < all.length → arr[i]? = all[i]?) (cap : Nat) (hcap : zs.length ≤ cap) (hsz : cap * s ≤ arr.size) {e : TypeId} {w' : World} (on : One w (.cells arr e) w')
    {v : AV} (hf : freshA C f S s zs e = (v, S')) (hFO : FO S F S'.next) (hFN : FN G S.next S'.next) :
    ∃ G', VR G' v (.slice (some ⟨w.heap.size, 0, none⟩) zs.length cap) ∧ GE G G' S.next S'.next ∧ SR w0 G' (ov S'.mem F) w' ∧ Grow S S' := by
  have hfl := flat_len zs hs
  have hle : zs.length * s ≤ cap * s := Nat.mul_le_mul_right _ hcap
  have hD : ∀ i, i < (flat zs).length → arr[i]? = some (all.getD i Go.undef) := by
    intro i hi
    rw [harr i (by omega), List.getD, List.getElem?_eq_getElem (by omega)]
    rfl
  have hA : ∀ i, i < (flat zs).length → arr.getD i Go.undef = all.getD i Go.undef := by
    intro i hi
    have := hD i hi
    obtain ⟨h1, h2⟩ := Array.getElem?_eq_some_iff.1 this
    simp only [Array.getD, h1, dite_true]
    exact h2
  unfold freshA at hf
  split at hf
  · cases hf
    obtain ⟨G', h1, h2, h3, h4, h5⟩ := new_cells (F := F) h hwf hFO hFN e (flat zs) arr (by omega) (fun i hi => by rw [hA i hi]; exact hv i hi) on
    exact ⟨G', VR.hnd S.next 0 zs.length s w.heap.size 0 cap _ h3 hcap h4 (by omega), h1, h2, h5⟩
  · cases hf
    obtain ⟨h1, h2⟩ := h.push on S.next (.tip e) (flat zs).length (hFN _ (Nat.le_refl _) (by simp [St.new])) (ov_next hwf hFO (by simp [St.new])) (some arr.size) (fun m hm => by cases hm; exact ⟨_, _, _, rfl, Nat.le_refl _⟩)
      (fun off => if off < (flat zs).length then arr[off]? else none) (fun off v hv => by
        split at hv
        · exact ⟨_, _, _, rfl, hv⟩
        · cases hv)
      (fun G' hG' hM => ⟨arr, (0, 0), on.new, Nat.zero_le _, fun off ho => by rw [hM off, if_neg (by omega)]⟩)
    refine ⟨_, ?_, h1, by rw [ov_upd] at h2; exact h2, grow_new hwf _⟩
    refine VR.lst zs (.tag S.next) w.heap.size 0 cap s (fun i => all.getD i Go.undef) hcap hs (fun i hi => ?_) (fun i hi => (hv i hi).mono h1) ⟨?_, hpos, arr.size, ?_, by omega⟩
    · show (if w.heap.size = w.heap.size then _ else _) = _
      rw [if_pos rfl, Nat.zero_add, if_pos hi, hD i hi]
    · simp [Gh.name, upd]
    · simp [Gh.name, Gh.ext]

theorem grow_run {t tx ty e : TypeId} {i : TypeInfo} {zc : Value} {s : Nat} (hu : P.underlying t = some (.slice e)) (hi : P.info? e = some i) (hz : i.zero = some zc) (hsz : i.size = s) (hzs : zc.cells.size = s) (base : Option Addr) (sLen sCap : Nat) (olds : List Value)
    (hold : (Builtin.firstCells s sLen (.slice base sLen sCap)).run P w.drew = .ok olds.toArray w.drew) (holdl : olds.length = sLen * s) (d : Value) (n : Nat) (news : List Value) (hs : Src P s tx d n news w) (hg : sCap < sLen + n) (hok : sizeOk i.bytes (sLen + n) = true) :
    ∃ arr cap w', (Builtin.append_ #[t, tx] ty #[.slice base sLen sCap, d]).run P w = .ok (.slice (some ⟨w.heap.size, 0, none⟩) (sLen + n) cap) w' ∧ One w (.cells arr e) w' ∧ sLen + n ≤ cap ∧ cap * s ≤ arr.size ∧ ∀ i, i < (olds ++ news).length → arr[i]? = (olds ++ news)[i]? := by
  subst hsz
  simp only [sizeOk, Bool.and_eq_true, decide_eq_true_eq] at hok
  have hr := run_append_grow_src (P := P) w t tx ty e i zc hu hi hz base sLen sCap olds hold d n news hs hg (by omega) (growslice_fits hg hok.1)
  refine ⟨(olds ++ news).toArray ++ Builtin.zeroCells zc.cells (grownCap w (sLen + n) sCap e - (sLen + n)), _, _, hr, ⟨rfl, rfl, rfl, by simp [World.alloc], fun k hk => ?_, ?_⟩, grownCap_ge w _ _ _, ?_, fun j hj => ?_⟩
  · exact Below.heap_alloc w.drew _ k (by simpa using hk)
  · show (w.heap.push _)[w.heap.size]? = _
    simp
  · have hge := grownCap_ge w (sLen + n) sCap e
    simp only [Array.size_append, List.size_toArray, List.length_append, holdl, hs.newsLen, Builtin.zeroCells, Array.size_map, Array.size_range, hzs]
    rw [← Nat.add_mul, ← Nat.add_mul]
    exact Nat.mul_le_mul_right _ (by omega)
  · rw [Array.getElem?_append_left (by simpa using hj)]
    simp

theorem upd_self_none {R : Nat → Option Blk} {n : Nat} (h : R n = none) : upd R n none = R := by
  funext m; unfold upd; split
  · rename_i e; subst e; exact h.symm
  · rfl
theorem ov_set_none {hi : Nat} (hFO : FO S F hi) {n : Nat} {b : Blk} (hn : S.mem n = some b) : upd (ov S.mem F) n none = ov (S.set n none).mem F := by
  funext k
  by_cases e : k = n
  · subst e
    have : F k = none := by
      cases hf : F k with
      | none => rfl
      | some x => have := (hFO _ _ hf).1; rw [hn] at this; cases this
    simp [upd, ov, St.set, this]
  · simp [upd, ov, St.set, e]

theorem wf_set_none (hwf : Wf S) (n : Nat) : Wf (S.set n none) := by
  intro m hm
  show upd S.mem n none m = none
  unfold upd; split
  · rfl
  · exact hwf m hm
theorem fo_set_none {hi : Nat} (hFO : FO S F hi) (n : Nat) : FO (S.set n none) F hi := by
  intro m b hm
  obtain ⟨h1, h2⟩ := hFO m b hm
  refine ⟨?_, h2⟩
  show upd S.mem n none m = none
  unfold upd; split
  · rfl
  · exact h1
theorem grow_set_none {S' : St} {n : Nat} (h : Grow (S.set n none) S') : Grow S S' := by
  refine ⟨h.next, fun m hm hn => h.old m hm ?_, h.free⟩
  show upd S.mem n none m = none
  unfold upd; split
  · rfl
  · exact hn
theorem SR.set_none (h : SR w0 G (ov S.mem F) w) {hi : Nat} (hFO : FO S F hi) {n : Nat} {b : Blk} (hn : S.mem n = some b) : SR w0 G (ov (S.set n none).mem F) w := by
  rw [← ov_set_none hFO hn]
  refine h.less (fun m b hm => ?_)
  unfold upd at hm; split at hm
  · cases hm
  · exact hm

/-- The cells of a list in memory, as an append reads them. -/
theorem list_firstCells (h : SR w0 G (ov S.mem F) w) {xs : List AV} {b o cap s : Nat} {val : Nat → Value} (hs : ∀ x ∈ xs, x.cells.length = s) (hm : ∀ i, i < (flat xs).length → G.M b (o + i) = some (val i)) :
    (Builtin.firstCells s xs.length (.slice (some ⟨b, o, none⟩) xs.length cap)).run P w.drew = .ok ((List.range (flat xs).length).map val).toArray w.drew := by
  refine run_firstCells_some w.drew s xs.length ⟨b, o, none⟩ xs.length cap _ (by simp [flat_len xs hs]) (fun j u hu => ?_)
  obtain ⟨hj, rfl⟩ := List.getElem?_eq_some_iff.1 hu
  have hj' : j < (flat xs).length := by simpa using hj
  rw [add_eq]
  simpa using h.imm _ _ _ (hm j hj')

theorem flat_append (xs ys : List AV) : flat (xs ++ ys) = flat xs ++ flat ys := by simp [flat]

theorem sim_zeros (C : Cfg) (f : FuncId) (h : SR w0 G (ov S.mem F) w) (hwf : Wf S) {t u e : TypeId} {i : TypeInfo} {zc : Value} {s by_ : Nat} {z x y v : AV} {c d : Value} {k : IntKind} (hx : VR G x c) (hy : VR G y d)
    (hu : P.underlying t = some (.slice e)) (hku : P.underlying u = some (.int k)) (hi : P.info? e = some i) (hz : i.zero = some zc) (hsize : i.size = s) (hby : i.bytes = by_) (hcz : Cells G z.cells zc.cells)
    (happ : zerosA C f S s by_ z x y = some (v, S')) (hFO : FO S F S'.next) (hFN : FN G S.next S'.next) (ty : TypeId) : GoodV w0 F G S S' v ((Builtin.append_ #[t, u] ty #[c, d]).run P w) := by
  unfold zerosA at happ
  split at happ
  case h_2 => cases happ
  rename_i k' n
  split at happ
  case isFalse => cases happ
  rename_i hif
  obtain ⟨hn0, hspos, hzl, hok, hh⟩ := hif
  cases hx
  cases hy
  obtain ⟨m, rfl⟩ := Int.eq_ofNat_of_zero_le (Int.le_of_lt hn0)
  simp only [Int.toNat_natCast] at happ hok
  cases happ
  simp only [sizeOk, Bool.and_eq_true, decide_eq_true_eq] at hok
  have hm0 : 0 < m := by omega
  have hzs : zc.cells.size = s := by rw [← hcz.len]; exact hzl
  subst hsize
  have hw : IntKind.i64.wrap (m : Int) = m := by rw [IntKind.wrap_i64]; omega
  have hneg : ¬ ((m : Int) < 0) := by omega
  have hbig : ¬ (281474976710656 < (m : Int) * (i.bytes : Int)) := by
    rw [← Int.natCast_mul]
    rw [hby]; omega
  have hmz : ¬ (m * i.size = 0) := Nat.mul_ne_zero (by omega) (by omega)
  have h63 : ¬ (9223372036854775807 < (m : Int)) := by omega
  have hfit := growslice_fits (need := m) (old := 0) (bytes := i.bytes) hm0 (by rw [hby]; exact hok.1)
  have h48 : ¬ (281474976710656 < Builtin.nextslicecap m 0 * i.bytes) := by omega
  have hmne : ¬ m = 0 := by omega
  have hr : (Builtin.append_ #[t, u] ty #[.slice none 0 0, .int k' m]).run P w = .ok (.slice (some ⟨w.heap.size, 0, none⟩) m (grownCap w m 0 e)) (w.drew.alloc (.cells (Builtin.zeroCells zc.cells m ++ Builtin.zeroCells zc.cells (grownCap w m 0 e - m)) e)) := by
    simp [Builtin.append_, run_underlying hu, run_underlying hku, sizeOf, typeInfo, zeroValue, hi, hz, asInt, asIntOf, hw, hneg, hbig, hmne, h63, h48, Question.forced, Builtin.firstCells, newRow, grownCap, hmz]
  have on : One w (.cells (Builtin.zeroCells zc.cells m ++ Builtin.zeroCells zc.cells (grownCap w m 0 e - m)) e) (w.drew.alloc (.cells (Builtin.zeroCells zc.cells m ++ Builtin.zeroCells zc.cells (grownCap w m 0 e - m)) e)) := by
    refine ⟨rfl, rfl, rfl, by simp [World.alloc], fun k hk => Below.heap_alloc w.drew _ k (by simpa using hk), ?_⟩
    show (w.heap.push _)[w.heap.size]? = _
    simp
  have hrep : Cells G (rep z.cells m) (Builtin.zeroCells zc.cells m) := hcz.rep m (by omega)
  obtain ⟨G', h1, h2, h3, h4, h5⟩ := new_cells (F := F) h hwf hFO hFN e (rep z.cells m) _ (by rw [hrep.len]; simp) (fun j hj => by
    have := hrep.at_ j hj
    have hj' : j < (Builtin.zeroCells zc.cells m).size := by rw [← hrep.len]; exact hj
    rw [arr_getD, Array.getElem?_append_left hj', ← arr_getD]
    exact this) on
  have hge := grownCap_ge w m 0 e
  refine ⟨_, _, G', hr, ?_, h1, h2, h5⟩
  have := VR.hnd S.next 0 m i.size w.heap.size 0 (grownCap w m 0 e) _ h3 hge h4 (by
    simp only [Array.size_append, Builtin.zeroCells, Array.size_map, Array.size_range, hzs]
    rw [← Nat.add_mul]
    simp only [Nat.zero_add]
    exact Nat.mul_le_mul_right _ (by omega))
  exact this

theorem sim_append (C : Cfg) (f : FuncId) (h : SR w0 G (ov S.mem F) w) (hwf : Wf S) {t u : TypeId} {x y v : AV} {c d : Value} (hx : VR G x c) (hy : VR G y d) (happ : appendA P C f S [t, u] x y = some (v, S')) (hFO : FO S F S'.next) (hFN : FN G S.next S'.next) (ty : TypeId) :
    GoodV w0 F G S S' v ((Builtin.append_ #[t, u] ty #[c, d]).run P w) := by
  unfold appendA at happ
  replace happ := Option.bind_eq_some_iff.1 happ; obtain ⟨e, he, happ⟩ := happ
  replace happ := Option.bind_eq_some_iff.1 happ; obtain ⟨s, hs, happ⟩ := happ
  replace happ := Option.bind_eq_some_iff.1 happ; obtain ⟨ag, hg, happ⟩ := happ
  replace happ := Option.bind_eq_some_iff.1 happ; obtain ⟨by_, hby, happ⟩ := happ
  replace happ := Option.bind_eq_some_iff.1 happ; obtain ⟨z, hz, happ⟩ := happ
  by_cases hint : ∃ k, P.underlying u = some (.int k)
  · obtain ⟨k, hku⟩ := hint
    rw [hku] at happ
    simp only at happ
    obtain ⟨i, hinfo, hsize⟩ := szA_info hs
    obtain ⟨i', zc, hinfo', hz', hzc, _, hcz⟩ := Cells.zero (G := G) hz w
    rw [hinfo] at hinfo'; cases hinfo'
    exact sim_zeros C f h hwf hx hy (elemA_und he) hku hinfo hz' hsize (by unfold bytesA at hby; rw [hinfo] at hby; simpa using hby) hcz happ hFO hFN ty
  have hk : (∃ e', P.underlying u = some (.slice e')) ∨ P.underlying u = some .string := by
    split at happ
    · rename_i e' hu; exact .inl ⟨e', hu⟩
    · rename_i hu; exact .inr hu
    · rename_i k hu; exact absurd ⟨k, hu⟩ hint
    · cases happ
  have happ2 : appendB C f S e s ag by_ z x y = some (v, S') := by
    split at happ
    · exact happ
    · exact happ
    · rename_i k hu; exact absurd ⟨k, hu⟩ hint
    · cases happ
  unfold appendB at happ2
  clear happ
  obtain ⟨ys0, hys, happ⟩ := Option.bind_eq_some_iff.1 happ2
  clear happ2
  split at happ
  case isFalse => cases happ
  rename_i hif
  obtain ⟨hspos, hzl, hwell⟩ := hif
  have hu := elemA_und he
  obtain ⟨i, hinfo, hsize⟩ := szA_info hs
  obtain ⟨i', zc, hinfo', hz', hzc, _, hcz⟩ := Cells.zero (G := G) hz w
  rw [hinfo] at hinfo'; cases hinfo'
  have hby' : i.bytes = by_ := by unfold bytesA at hby; rw [hinfo] at hby; simpa using hby
  have hzs : zc.cells.size = s := by rw [← hcz.len]; exact hzl
  obtain ⟨news, hsrc, hnl, hnv⟩ := src_of (P := P) h hk hy hys hwell
  generalize hysd : ys0.map AV.shed = ys at *
  have hyl : ys.length = ys0.length := by rw [← hysd]; simp
  rw [← hyl] at hsrc
  obtain ⟨wf1, wf2⟩ := wellA_flat hwell
  have nothing : ∀ (base : Option Addr) (sLen sCap : Nat), sLen ≤ sCap → ys.length = 0 → (Builtin.append_ #[t, u] ty #[.slice base sLen sCap, d]).run P w = .ok (.slice base sLen sCap) w := by
    intro base sLen sCap hle h0
    rw [h0] at hsrc
    have hn0 : news = [] := by
      have := hsrc.newsLen
      simpa using this
    subst hn0
    exact run_append_nothing (P := P) w t u ty e i hu hinfo base sLen sCap hle d (by rw [hsize]; exact hsrc)
  -- a list whose cells are known, and no room
  have grown : ∀ (C : Cfg) (S1 : St) (xs : List AV) (base : Option Addr) (cap : Nat) (olds : List Value), SR w0 G (ov S1.mem F) w → Wf S1 → S1.next = S.next → FO S1 F S'.next → cap < xs.length + ys.length → 0 < ys.length → sizeOk by_ (xs.length + ys.length) = true → (∀ x ∈ xs, x.cells.length = s) →
      olds.length = (flat xs).length → (∀ i (hi : i < (flat xs).length), VR G (flat xs)[i] (olds.getD i Go.undef)) → (Builtin.firstCells s xs.length (.slice base xs.length cap)).run P w.drew = .ok olds.toArray w.drew → ∀ v' : AV, (freshA C f S1 s (xs ++ ys) e = (v', S')) →
      GoodV w0 F G S1 S' v' ((Builtin.append_ #[t, u] ty #[.slice base xs.length cap, d]).run P w) := by
    intro C S1 xs base cap olds hS1 hwf1 hnx hFO1 hlt hpos hok hxs hol hov hold v' hfr
    obtain ⟨arr, cap', w', hr, on, hcap', hsz', harr⟩ := grow_run (P := P) (w := w) hu hinfo hz' hsize hzs base xs.length cap olds hold (by rw [hol, flat_len xs hxs]) d ys.length news hsrc hlt (by rw [hby']; exact hok) (ty := ty)
    have hxy : ∀ x ∈ xs ++ ys, x.cells.length = s := by
      intro x hx
      rcases List.mem_append.1 hx with h | h
      · exact hxs x h
      · exact (wellA_mem hwell x h).1
    obtain ⟨G', g1, g2, g3, g4⟩ := fresh_good C f hS1 hwf1 (xs ++ ys) s hxy (by simp; omega) (olds ++ news) (by rw [flat_append]; simp [hol, hnl]) (fun j hj => by
      rw [flat_append] at hj
      simp only [flat_append]
      rcases Nat.lt_or_ge j (flat xs).length with h1 | h1
      · rw [List.getElem_append_left h1, List.getD, List.getElem?_append_left (by omega)]
        exact hov j h1
      · rw [List.getElem_append_right h1, List.getD, List.getElem?_append_right (by omega), hol]
        exact hnv _ (by simp at hj; omega)) arr harr cap' (by simpa using hcap') hsz' on hfr hFO1 (by rw [hnx]; exact hFN)
    exact ⟨_, _, G', hr, by simpa using g1, g2, g3, g4⟩
  split at happ
  · -- nil
    cases hx
    split at happ
    · rename_i h0
      cases happ
      exact .quiet h hwf (nothing _ _ _ (Nat.le_refl _) h0) .nils
    · rename_i h0
      split at happ
      · rename_i hok
        exact grown C S [] none 0 [] h hwf rfl hFO (by simp; omega) (by omega) (by simpa using hok) (fun x hx => by cases hx) rfl (fun i hi => by simp [flat] at hi) (run_firstCells_none w.drew s 0 0 0) _ (Option.some.inj happ)
      · cases happ
  · -- full
    rename_i xs
    cases hx with
    | elst _ a cap ht =>
      obtain rfl : cap = 0 := by
        rcases ht with e | ⟨_, e⟩
        · cases e
        · exact e
      split at happ
      · rename_i h0
        cases happ
        exact .quiet h hwf (nothing _ _ _ (Nat.le_refl _) h0) (.elst .full a 0 (.inr ⟨rfl, rfl⟩))
      · rename_i h0
        split at happ
        · rename_i hok
          exact grown C S [] (some a) 0 [] h hwf rfl hFO (by simp; omega) (by omega) (by simpa using hok.1) (fun x hx => by cases hx) rfl (fun i hi => by simp [flat] at hi) (run_firstCells_some w.drew s 0 a 0 0 [] (by simp) (by simp)) _ (Option.some.inj happ)
        · cases happ
    | lst _ _ b o cap s' val hc hs' hm hv ht =>
      obtain rfl : cap = xs.length := ht
      split at happ
      · rename_i h0
        cases happ
        exact .quiet h hwf (nothing _ _ _ (Nat.le_refl _) h0) (.lst xs .full b o xs.length s' val hc hs' hm hv rfl)
      · rename_i h0
        split at happ
        · rename_i hok
          exact grown C S xs (some ⟨b, o, none⟩) xs.length ((List.range (flat xs).length).map val) h hwf rfl hFO (by omega) (by omega) hok.1 (fun x hx => (wellA_mem hok.2 x hx).1) (by simp) (fun i hi => by
            have := hv i hi
            simpa [List.getD, hi] using this) (list_firstCells (P := P) h (fun x hx => (wellA_mem hok.2 x hx).1) hm) _ (Option.some.inj happ)
        · cases happ
  · -- with a tip
    rename_i xs n
    cases hx with
    | elst _ a cap ht => rcases ht with e | ⟨e, _⟩ <;> cases e
    | lst _ _ b o cap s' val hc hs' hm hv ht =>
      split at happ
      · rename_i h0
        cases happ
        exact .quiet h hwf (nothing _ _ _ hc h0) (.lst xs (.tag n) b o cap s' val hc hs' hm hv ht)
      · rename_i h0
        split at happ
        case isFalse => cases happ
        rename_i hok
        obtain ⟨hok, hwx⟩ := hok
        split at happ
        case h_2 => cases happ
        rename_i ty0 htip
        split at happ
        case isFalse => cases happ
        rename_i hty
        rw [hty] at htip
        cases happ
        have hxs : ∀ x ∈ xs, x.cells.length = s := fun x hx => (wellA_mem hwx x hx).1
        rcases Nat.lt_or_ge cap (xs.length + ys.length) with hlt | hroom
        · obtain ⟨c', w', G', g1, g2, g3, g4, g5⟩ := grown { C with hnd := fun _ => false } (S.set n none) xs (some ⟨b, o, none⟩) cap ((List.range (flat xs).length).map val) (h.set_none hFO htip) (wf_set_none hwf n) rfl (fo_set_none hFO n) hlt (by omega) hok hxs (by simp) (fun i hi => by
            have := hv i hi
            simpa [List.getD, hi] using this) (list_firstCells (P := P) h hxs hm) (.lst (xs ++ ys) (.tag S.next)) rfl
          exact ⟨c', w', G', g1, g2, g3, g4, grow_set_none g5⟩
        · -- there is room
          obtain ⟨t1, t2, m, t3, t4⟩ := ht
          obtain rfl : s' = s := by
            obtain ⟨x, hx⟩ := List.exists_mem_of_length_pos t2
            rw [← hs' x hx]; exact hxs x hx
          obtain ⟨b', o', e1, hge, ccs, fr, hb, hfr, hM⟩ := h.res n _ (ov_some htip)
          rw [t1] at e1; cases e1
          obtain ⟨ccs0, tyb0, fr0, hb0, hm0⟩ := h.size b m t3
          rw [hb] at hb0; cases hb0
          have hfl := flat_len xs hxs
          have hnews : news.length = ys.length * s' := hsrc.newsLen
          have hcap2 : xs.length * s' + ys.length * s' ≤ cap * s' := by rw [← Nat.add_mul]; exact Nat.mul_le_mul_right _ hroom
          have hrun := run_append_room_src (P := P) w t u ty e i hu hinfo b o xs.length cap d ys.length news (by rw [hsize]; exact hsrc) hroom (fun j hj => by
            rw [hsize, cell_of hb, Array.getElem?_eq_getElem (by omega)]; rfl) (fun j hj => by
            obtain ⟨lo, hi⟩ := fr
            simp only at hfr
            simp only [World.frozen?, hb, hsize]
            have : ¬ (o + xs.length * s' + j < hi) := by omega
            simp [this])
          rw [hsize] at hrun
          obtain ⟨ccs', k1, k2, k3, k4, k5, k6, k7, k8⟩ := setCells_block b news (o + xs.length * s') w ccs _ fr hb
          generalize w.setCells b (o + xs.length * s') news = w' at hrun k1 k3 k4 k5 k6 k7
          have hMlt : ∀ off v, G.M b off = some v → off < o + (flat xs).length := by
            intro off v hv
            rcases Nat.lt_or_ge off (o + (flat xs).length) with h' | h'
            · exact h'
            · rw [hM off h'] at hv; cases hv
          have st1 : SR w0 G (upd (ov S.mem F) n none) w' := by
            refine h.drop_turn (ov_some htip) t1 k5 k6 k7 k4 k3 (fun off v hv => ?_) (fun m' hm' => ?_)
            · have h1 := hMlt off v hv
              have h2 := h.imm b off v hv
              rw [cell_of hb] at h2
              rw [cell_of k1, k8 off, if_neg (by omega)]
              exact h2
            · obtain ⟨a1, a2, a3, a4, a5⟩ := h.size b m' hm'
              rw [hb] at a4; cases a4
              exact ⟨_, _, _, k1, by omega⟩
          rw [ov_set_none hFO htip] at st1
          have hap : ∀ m x b' o', ov (S.set n none).mem F m = some x → G.io m = some (b', o') → b' ≠ b := by
            intro m x b' o' hmx hio
            rw [← ov_set_none hFO htip] at hmx
            by_cases e : m = n
            · subst e; simp [upd] at hmx
            · simp only [upd, if_neg e] at hmx
              exact h.apart m n x _ b' o' b _ hmx (ov_some htip) e hio t1
          obtain ⟨gk, st2⟩ := st1.know b (fun off => if o + xs.length * s' ≤ off ∧ off < o + xs.length * s' + news.length then news[off - (o + xs.length * s')]? else none) (fun off v hv => by
            split at hv
            · rename_i hr
              refine ⟨by rw [cell_of k1, k8 off, if_pos (by omega)]; exact hv, fun u hu => ?_⟩
              have := hMlt off u hu
              omega
            · cases hv) hap
          have hno : (G.know b (fun off => if o + xs.length * s' ≤ off ∧ off < o + xs.length * s' + news.length then news[off - (o + xs.length * s')]? else none)).io S.next = none := hFN _ (Nat.le_refl _) (by simp [St.new, St.set])
          have st3 := st2.named S.next hno (ov_next (wf_set_none hwf n) (fo_set_none hFO n) (by simp [St.new, St.set])) b (o + (flat (xs ++ ys)).length) (.tip e) hge ⟨ccs', fr, k1, by rw [flat_append]; simp; omega, fun off ho => by
            rw [flat_append, List.length_append, hfl, ← hnl, hnews] at ho
            have hcond : ¬ (o + xs.length * s' ≤ off ∧ off < o + xs.length * s' + news.length) := by omega
            show (if b = b then _ else _) = _
            simp only [if_true, hcond, if_false]
            exact hM off (by omega)⟩ (fun m x b' o' hmx hio => hap m x b' o' hmx hio)
          rw [ov_upd] at st3
          have gn := Gh.name_ge (b, o + (flat (xs ++ ys)).length) hno
          have gt : GE G _ S.next (S.next + 1) := ⟨fun m p hp => gn.io _ _ ((gk S.next (S.next + 1)).io _ _ hp), fun b off v hp => gn.M _ _ _ ((gk S.next (S.next + 1)).M _ _ _ hp), fun b m hp => gn.sz _ _ ((gk S.next (S.next + 1)).sz _ _ hp), fun m hm => (gn.new m hm).trans ((gk S.next (S.next + 1)).new m hm)⟩
          refine ⟨_, _, _, hrun, ?_, gt, st3, grow_set_none (grow_new (wf_set_none hwf n) _)⟩
          have hxy : ∀ x ∈ xs ++ ys, x.cells.length = s' := by
            intro x hx
            rcases List.mem_append.1 hx with h | h
            · exact hxs x h
            · exact (wellA_mem hwell x h).1
          have := VR.lst (G := (G.know b (fun off => if o + xs.length * s' ≤ off ∧ off < o + xs.length * s' + news.length then news[off - (o + xs.length * s')]? else none)).name S.next (b, o + (flat (xs ++ ys)).length)) (xs ++ ys) (.tag S.next) b o cap s'
            (fun i => if i < (flat xs).length then val i else news.getD (i - (flat xs).length) Go.undef) (by simpa using hroom) hxy (fun i hi => ?_) (fun i hi => ?_) ⟨?_, by simp; omega, m, t3, t4⟩
          · simpa using this
          · show (if b = b then _ else _) = _
            rw [if_pos rfl]
            rw [flat_append, List.length_append, hfl, ← hnl] at hi
            rcases Nat.lt_or_ge i (flat xs).length with h1 | h1
            · have hcond : ¬ (o + xs.length * s' ≤ o + i ∧ o + i < o + xs.length * s' + news.length) := by omega
              simp only [hcond, if_false, h1, if_true]; exact hm i h1
            · have hcond : o + xs.length * s' ≤ o + i ∧ o + i < o + xs.length * s' + news.length := by omega
              have h1' : ¬ i < (flat xs).length := by omega
              have e1 : o + i - (o + xs.length * s') = i - (flat xs).length := by omega
              have e2 : i - (flat xs).length < news.length := by omega
              simp only [hcond, and_self, if_true, h1', if_false, e1, List.getD, List.getElem?_eq_getElem e2, Option.getD_some]
          · have hi' := hi
            rw [flat_append, List.length_append] at hi'
            have e0 : (flat (xs ++ ys))[i]'hi = (flat xs ++ flat ys)[i]'(by simpa using hi') := List.getElem_of_eq (flat_append xs ys) _
            rw [e0]
            rcases Nat.lt_or_ge i (flat xs).length with h1 | h1
            · rw [List.getElem_append_left h1, if_pos h1]; exact (hv i h1).mono gt
            · rw [List.getElem_append_right h1, if_neg (by omega)]; exact (hnv (i - (flat xs).length) (by omega)).mono gt
          · simp [Gh.name, upd]
  · -- lost
    rename_i xs
    cases hx with
    | elst _ a cap ht =>
      split at happ
      · rename_i h0
        cases happ
        exact .quiet h hwf (nothing _ _ _ (Nat.zero_le _) h0) (.elst .lost a cap (.inl rfl))
      · cases happ
    | lst _ _ b o cap s' val hc hs' hm hv ht =>
      split at happ
      · rename_i h0
        cases happ
        exact .quiet h hwf (nothing _ _ _ hc h0) (.lst xs .lost b o cap s' val hc hs' hm hv ht)
      · cases happ
  · -- a written array
    rename_i n off len s'
    split at happ
    · rename_i h0
      cases happ
      cases hx with
      | hnd _ _ _ _ b o cap m hio hc hz hm => exact .quiet h hwf (nothing _ _ _ hc h0) (.hnd n off len s' b o cap m hio hc hz hm)
    · rename_i h0
      replace happ := Option.bind_eq_some_iff.1 happ; obtain ⟨cs, hcs, happ⟩ := happ
      split at happ
      case isFalse => cases happ
      rename_i hif
      obtain ⟨rfl, hok, hle, hall⟩ := hif
      cases happ
      cases hx with
      | hnd _ _ _ _ b o cap m hio hc hz2 hm =>
        obtain ⟨blk0, hmem, _⟩ := cells_eq hcs
        obtain ⟨hge, ccs, tyb, hb, hlen, hv, hM⟩ := h.cellsAt hcs hio
        obtain ⟨ccs0, tyb0, fr0, hb0, hm0⟩ := h.size b m hz2
        rw [hb] at hb0; cases hb0
        have hnews : news.length = ys.length * s' := hsrc.newsLen
        have hold : (Builtin.firstCells s' len (.slice (some ⟨b, o + off, none⟩) len cap)).run P w.drew = .ok ((List.range (len * s')).map fun i => ccs.getD (o + off + i) Go.undef).toArray w.drew := by
          refine run_firstCells_some w.drew s' len ⟨b, o + off, none⟩ len cap _ (by simp) (fun j u hu => ?_)
          obtain ⟨hj, rfl⟩ := List.getElem?_eq_some_iff.1 hu
          have hj' : j < len * s' := by simpa using hj
          rw [add_eq]
          simp only [World.cell?_drew]
          rw [cell_of hb, getD_some (by omega)]
          simp
        have hcl : ((cs.drop off).take (len * s')).length = len * s' := by simp; omega
        rcases Nat.lt_or_ge cap (len + ys.length) with hlt | hroom
        · obtain ⟨arr, cap', w', hr, on, hcap', hsz', harr⟩ := grow_run (P := P) (w := w) hu hinfo hz' hsize hzs (some ⟨b, o + off, none⟩) len cap _ hold (by simp) d ys.length news hsrc hlt (by rw [hby']; exact hok) (ty := ty)
          have hflen : ((cs.drop off).take (len * s') ++ flat ys).length = ((List.range (len * s')).map (fun i => ccs.getD (o + off + i) Go.undef) ++ news).length := by
            rw [List.length_append, hcl, List.length_append, hnl]; simp
          obtain ⟨G', g1, g2, g3, g4, g5⟩ := new_cells (F := F) (h.set_none hFO hmem) (wf_set_none hwf n) (fo_set_none hFO n) (by exact hFN) e ((cs.drop off).take (len * s') ++ flat ys) arr (by
            have : (len + ys.length) * s' ≤ cap' * s' := Nat.mul_le_mul_right _ hcap'
            rw [Nat.add_mul] at this
            rw [List.length_append, hcl, ← hnl, hnews]; omega) (fun i hi => by
            have hi2 : i < ((List.range (len * s')).map (fun i => ccs.getD (o + off + i) Go.undef) ++ news).length := by omega
            have e1 := harr i hi2
            have e2 : arr.getD i Go.undef = ((List.range (len * s')).map (fun i => ccs.getD (o + off + i) Go.undef) ++ news).getD i Go.undef := by
              rw [List.getElem?_eq_getElem hi2] at e1
              obtain ⟨q1, q2⟩ := Array.getElem?_eq_some_iff.1 e1
              simp only [Array.getD, q1, dite_true, List.getD, List.getElem?_eq_getElem hi2, Option.getD_some]
              exact q2
            rw [e2]
            rcases Nat.lt_or_ge i (len * s') with h1 | h1
            · rw [List.getElem_append_left (by omega), List.getD, List.getElem?_append_left (by simpa using h1)]
              simp only [List.getElem_take, List.getElem_drop, List.getElem?_map, List.getElem?_range h1, Option.map_some, Option.getD_some]
              have := hv (off + i) (by omega)
              rwa [Nat.add_assoc]
            · rw [List.getElem_append_right (by omega), List.getD, List.getElem?_append_right (by simpa using h1)]
              simp only [hcl, List.length_map, List.length_range]
              exact hnv _ (by rw [List.length_append, hcl] at hi; omega)) on
          exact ⟨_, _, G', hr, VR.hnd S.next 0 (len + ys.length) s' w.heap.size 0 cap' _ g3 hcap' g4 (by omega), g1, g2, grow_set_none g5⟩
        · have hcap2 : len * s' + ys.length * s' ≤ cap * s' := by rw [← Nat.add_mul]; exact Nat.mul_le_mul_right _ hroom
          have hrun := run_append_room_src (P := P) w t u ty e i hu hinfo b (o + off) len cap d ys.length news (by rw [hsize]; exact hsrc) hroom (fun j hj => by
            rw [hsize, cell_of hb, Array.getElem?_eq_getElem (by omega)]; rfl) (fun j hj => by simp [World.frozen?, hb])
          rw [hsize] at hrun
          obtain ⟨ccs', k1, k2, k3, k4, k5, k6, k7, k8⟩ := setCells_block b news (o + off + len * s') w ccs tyb (0, 0) hb
          generalize w.setCells b (o + off + len * s') news = w' at hrun k1 k3 k4 k5 k6 k7
          have hMlt : ∀ off' v, G.M b off' = some v → off' < o := by
            intro off' v hv
            rcases Nat.lt_or_ge off' o with h' | h'
            · exact h'
            · rw [hM off' h'] at hv; cases hv
          have st1 : SR w0 G (upd (ov S.mem F) n none) w' := by
            refine h.drop_turn (ov_some hmem) hio k5 k6 k7 k4 k3 (fun off' v hv => ?_) (fun m' hm' => ?_)
            · have h1 := hMlt off' v hv
              have h2 := h.imm b off' v hv
              rw [cell_of hb] at h2
              rw [cell_of k1, k8 off', if_neg (by omega)]
              exact h2
            · obtain ⟨a1, a2, a3, a4, a5⟩ := h.size b m' hm'
              rw [hb] at a4; cases a4
              exact ⟨_, _, _, k1, by omega⟩
          rw [ov_set_none hFO hmem] at st1
          have hap : ∀ m x b' o', ov (S.set n none).mem F m = some x → G.io m = some (b', o') → b' ≠ b := by
            intro m x b' o' hmx hio'
            rw [← ov_set_none hFO hmem] at hmx
            by_cases e : m = n
            · subst e; simp [upd] at hmx
            · simp only [upd, if_neg e] at hmx
              exact h.apart m n x _ b' o' b _ hmx (ov_some hmem) e hio' hio
          have hno : G.io S.next = none := hFN _ (Nat.le_refl _) (by simp [St.new, St.set])
          have st3 := st1.named S.next hno (ov_next (wf_set_none hwf n) (fo_set_none hFO n) (by simp [St.new, St.set])) b (o + off) (.cells ((cs.drop off).take (len * s') ++ flat ys)) hge ⟨ccs', tyb, k1, by rw [List.length_append, hcl, ← hnl, hnews]; omega, fun i hi => ?_, fun off' ho => hM off' (by omega)⟩ hap
          · rw [ov_upd] at st3
            exact ⟨_, _, G.name S.next (b, o + off), hrun, VR.hnd S.next 0 (len + ys.length) s' b (o + off) cap m (by simp [Gh.name, upd]) hroom hz2 (by omega), Gh.name_ge _ hno, st3, grow_set_none (grow_new (wf_set_none hwf n) _)⟩
          · have hi' := hi
            rw [List.length_append, hcl, ← hnl] at hi'
            rw [arr_getD, k8]
            rcases Nat.lt_or_ge i (len * s') with h1 | h1
            · rw [if_neg (by omega), List.getElem_append_left (by omega)]
              simp only [List.getElem_take, List.getElem_drop]
              have := hv (off + i) (by omega)
              rw [getD_some (by omega), Option.getD_some, Nat.add_assoc]
              exact this
            · rw [if_pos (by omega), List.getElem_append_right (by omega)]
              have := hnv (i - len * s') (by omega)
              rw [show o + off + i - (o + off + len * s') = i - len * s' by omega]
              simpa [hcl, List.getD] using this
  · cases happ

theorem grow_set (hwf : Wf S) {n : Nat} {b b' : Blk} (hn : S.mem n = some b) : Grow S (S.set n (some b')) := by
  refine ⟨Nat.le_refl _, fun m _ hm' => ?_, fun m hm' => ?_⟩
  · show upd S.mem n _ m = none
    unfold upd; split
    · rename_i e; subst e; rw [hn] at hm'; cases hm'
    · exact hm'
  · show upd S.mem n _ m = none
    unfold upd; split
    · rename_i e; subst e; have := hwf _ hm'; rw [hn] at this; cases this
    · exact hwf m hm'

theorem sim_copy (h : SR w0 G (ov S.mem F) w) (hwf : Wf S) {t u : TypeId} {x y v : AV} {c d : Value} (hx : VR G x c) (hy : VR G y d) (hcp : copyA P S [t, u] x y = some (v, S')) (ty : TypeId) : GoodV w0 F G S S' v ((Builtin.copy_ #[t, u] ty #[c, d]).run P w) := by
  unfold copyA at hcp
  replace hcp := Option.bind_eq_some_iff.1 hcp; obtain ⟨e, he, hcp⟩ := hcp
  replace hcp := Option.bind_eq_some_iff.1 hcp; obtain ⟨s, hs, hcp⟩ := hcp
  replace hcp := Option.bind_eq_some_iff.1 hcp; obtain ⟨ag, hg, hcp⟩ := hcp
  replace hcp := Option.bind_eq_some_iff.1 hcp; obtain ⟨_, hk0, hcp⟩ := hcp
  replace hcp := Option.bind_eq_some_iff.1 hcp; obtain ⟨ys, hys, hcp⟩ := hcp
  have hk : (∃ e', P.underlying u = some (.slice e')) ∨ P.underlying u = some .string := by
    split at hk0
    · rename_i e' hu; exact .inl ⟨e', hu⟩
    · rename_i hu; exact .inr hu
    · cases hk0
  split at hcp
  case isFalse => cases hcp
  rename_i hwell
  have hu := elemA_und he
  obtain ⟨news, hsrc, hnl, hnv⟩ := src_of (P := P) h hk hy hys hwell
  obtain ⟨wf1, wf2⟩ := wellA_flat hwell
  split at hcp
  · cases hx
    split at hcp
    · rename_i h0
      cases hcp
      have hr : (Builtin.firstCells s 0 d).run P w = .ok news.toArray w := by rw [← h0]; exact hsrc.cells
      refine .quiet h hwf (c := .int .i64 0) ?_ (.int _ _)
      simp [Builtin.copy_, und_run hu, szA_run hs, hsrc.len, hr, goInt]
    · cases hcp
  · rename_i n off len s'
    replace hcp := Option.bind_eq_some_iff.1 hcp; obtain ⟨cs, hcs, hcp⟩ := hcp
    split at hcp
    case isFalse => cases hcp
    rename_i hif
    obtain ⟨rfl, hspos, hle, hfit⟩ := hif
    cases hcp
    cases hx with
    | hnd _ _ _ _ b o cap m hio hc hz hm =>
      have hle2 : ys.length * s' ≤ len * s' := Nat.mul_le_mul_right _ hle
      have hyl : (ys.map AV.shed).length = ys.length := by simp
      obtain ⟨w', h1, h2⟩ := store_cells (P := P) (off := off) h hcs hio (flat (ys.map AV.shed)) news hnl.symm hnv (List.all_eq_true.2 wf2) (by rw [wf1, hyl]; omega)
      obtain ⟨blk0, hmem, _⟩ := cells_eq hcs
      refine ⟨.int .i64 (ys.length : Nat), w', G, ?_, .int _ _, GE.refl _ _ _, h2, grow_set hwf hmem⟩
      have hmin : Nat.min ys.length len = ys.length := Nat.min_eq_left hle
      simp only [Builtin.copy_, Sem.run_bind, und_run hu, Result.andThen_ok, szA_run hs, hsrc.len, hmin, hsrc.cells, h1, Sem.run_pure, goInt, List.getElem?_toArray, List.getElem?_cons_zero, List.getElem?_cons_succ, List.toList_toArray]
  · cases hcp
theorem cells_plain {x : AV} (h : x.plain = true) : x.cells = [x] := by cases x <;> first | rfl | cases h
theorem flat_plain : ∀ {xs : List AV}, xs.all AV.plain = true → flat xs = xs
  | [], _ => rfl
  | x :: xs, h => by
    simp only [List.all_cons, Bool.and_eq_true] at h
    show x.cells ++ flat xs = _
    rw [cells_plain h.1, flat_plain h.2]; rfl
theorem sim_cnv (h : SR w0 G (ov S.mem F) w) (hwf : Wf S) {hi : Nat} (hFO : FO S F hi) {t : TypeId} {x v : AV} {c : Value} (hx : VR G x c) (hc : cnvA P S t x = some (v, S')) : GoodV w0 F G S S' v ((convert t t c).run P w) := by
  unfold cnvA at hc
  split at hc
  case h_2 => cases hc
  rename_i e n off len s hu
  split at hc
  case h_2 => cases hc
  rename_i cs he hn
  split at hc
  case isFalse => cases hc
  rename_i hif
  obtain ⟨rfl, hle, hpl⟩ := hif
  cases hc
  cases hx with
  | hnd _ _ _ _ b o cap m hio hcap hz hm =>
  obtain ⟨b', o', e1, hb0, ccs, ty, e2, e3, e4, e5⟩ := h.res n (.cells cs) (ov_some hn)
  rw [hio] at e1; cases e1
  have s0 := h.set_none hFO hn
  have hap : ∀ m' x b2 o2, ov (S.set n none).mem F m' = some x → G.io m' = some (b2, o2) → b2 ≠ b := by
    intro m' x b2 o2 hx hio2
    rw [← ov_set_none hFO hn] at hx
    unfold upd at hx
    split at hx
    · cases hx
    · rename_i hne
      exact h.apart m' n x (.cells cs) b2 o2 b o hx (ov_some hn) hne hio2 hio
  have hsh : w.shape? b = some (ty, ccs.size) := by simp [World.shape?, e2]
  have hfreeze : ∃ fr', (w.freeze ⟨b, ccs.size, none⟩ 1).heap[b]? = some (.cells ccs ty fr') := by
    unfold World.freeze
    rw [if_neg (by decide)]
    simp only [Array.getElem?_modify, if_pos, e2, Option.map_some]
    exact ⟨_, rfl⟩
  obtain ⟨fr', hb'⟩ := hfreeze
  have s1 := s0.refr (fr' := fr') e2 hb0 hap (w' := w.freeze ⟨b, ccs.size, none⟩ 1) (by unfold World.freeze; split <;> rfl) (by unfold World.freeze; split <;> rfl) (by unfold World.freeze; split <;> rfl) (by unfold World.freeze; split <;> simp) (fun k hk => by
    unfold World.freeze
    rw [if_neg (by decide)]
    simp only [Array.getElem?_modify]
    rw [if_neg (fun e => hk e.symm)]) hb'
  obtain ⟨G2, g2, s2, hM⟩ := s1.learn hb' hap
  have hseg : ((cs.drop off).take len).all AV.plain = true := List.all_eq_true.2 fun x hx => List.all_eq_true.1 hpl x (List.mem_of_mem_drop (List.mem_of_mem_take hx))
  have hfl := flat_plain hseg
  have hsl : ((cs.drop off).take len).length = len := by simp; omega
  refine ⟨.slice (some ⟨b, o + off, none⟩) len cap, w.freeze ⟨b, ccs.size, none⟩ 1, G2, ?_, ?_, g2 _ _, s2, grow_set_none (Grow.refl (wf_set_none hwf n))⟩
  · simp [convert, run_underlying hu, run_underlying he, markStringish, hsh]
  · have := VR.lst (G := G2) ((cs.drop off).take len) .lost b (o + off) cap 1 (fun i => ccs.getD (o + off + i) Go.undef) (by rw [hsl]; exact hcap) (fun x hx => by rw [cells_plain (List.all_eq_true.1 hseg x hx)]; rfl)
      (fun i hi => by rw [hfl, hsl] at hi; exact hM _ (by omega))
      (fun i hi => by
        have hi2 : i < ((cs.drop off).take len).length := by rw [hfl] at hi; exact hi
        have := (e4 (off + i) (by omega)).mono (g2 0 0)
        rw [← Nat.add_assoc] at this
        simpa [hfl] using this) trivial
    rwa [hsl] at this
end
end Go.Proofs.Ytfphpjinimfhfaa.VM
