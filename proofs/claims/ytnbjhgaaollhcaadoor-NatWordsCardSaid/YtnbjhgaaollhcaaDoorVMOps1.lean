import Derived.Test.YtnbjhgaaollhcaaDoorVMRel
import Derived.Deep.AppendSrc
import Derived.Deep.Upon
/-! Loads, stores, new blocks, addresses. -/
namespace Go.Proofs.YtnbjhgaaollhcaaDoor.VM
set_option linter.unusedSectionVars false
open Go.RowKit
variable [Glob]

def ov (m F : Nat → Option Blk) : Nat → Option Blk := fun n => match m n with | some b => some b | none => F n

theorem ov_some {m F : Nat → Option Blk} {n : Nat} {b : Blk} (h : m n = some b) : ov m F n = some b := by simp [ov, h]

/-- The frame: names beside. -/
def FO (S : St) (F : Nat → Option Blk) (hi : Nat) : Prop := ∀ n blk, F n = some blk → S.mem n = none ∧ (n < S.next ∨ hi ≤ n)
def FN (G : Gh) (lo hi : Nat) : Prop := ∀ n, lo ≤ n → n < hi → G.io n = none

structure Grow (S S' : St) : Prop where
  next : S.next ≤ S'.next
  old : ∀ n, n < S.next → S.mem n = none → S'.mem n = none
  free : ∀ n, S'.next ≤ n → S'.mem n = none

def Wf (S : St) : Prop := ∀ n, S.next ≤ n → S.mem n = none

theorem Grow.refl {S : St} (h : Wf S) : Grow S S := ⟨Nat.le_refl _, fun _ _ h => h, h⟩
theorem Grow.trans {S S1 S2 : St} (h : Grow S S1) (k : Grow S1 S2) : Grow S S2 :=
  ⟨Nat.le_trans h.next k.next, fun n hn hm => k.old n (by have := h.next; omega) (h.old n hn hm), k.free⟩
theorem Grow.wf {S S' : St} (h : Grow S S') : Wf S' := h.free

section
variable {P : Program}

theorem szA_run {t : TypeId} {s : Nat} (h : szA P t = some s) (w : World) : (sizeOf t).run P w = .ok s w := by
  unfold szA at h
  cases hi : P.info? t with
  | none => rw [hi] at h; cases h
  | some i => rw [hi] at h; cases h; simp [sizeOf, typeInfo, hi]
theorem szA_info {t : TypeId} {s : Nat} (h : szA P t = some s) : ∃ i, P.info? t = some i ∧ i.size = s := by
  unfold szA at h
  cases hi : P.info? t with
  | none => rw [hi] at h; cases h
  | some i => rw [hi] at h; cases h; exact ⟨i, rfl, rfl⟩
theorem isAggA_run {t : TypeId} {b : Bool} (h : isAggA P t = some b) (w : World) : (isAgg t).run P w = .ok b w := by
  unfold isAggA at h
  split at h <;> first | (cases h; done) | (rename_i hu; cases h; simp [isAgg, run_underlying hu]) | skip
theorem zeroA_run {t : TypeId} {z : AV} (h : zeroA P t = some z) (w : World) : ∃ i c, P.info? t = some i ∧ i.zero = some c ∧ (zeroValue t).run P w = .ok c w ∧ z = ofValue c ∧ z.known = true := by
  unfold zeroA at h
  obtain ⟨c, hc, h⟩ := Option.bind_eq_some_iff.1 h
  obtain ⟨i, hi, hz⟩ := Option.bind_eq_some_iff.1 hc
  split at h
  · rename_i hk
    cases h
    exact ⟨i, c, hi, hz, by simp [zeroValue, typeInfo, hi, hz], rfl, hk⟩
  · cases h
theorem elemA_und {t e : TypeId} (h : elemA P t = some e) : P.underlying t = some (.slice e) := by
  unfold elemA at h
  split at h
  · cases h; assumption
  · cases h

theorem add_eq (b o j : Nat) : (⟨b, o, none⟩ : Addr).add j = ⟨b, o + j, none⟩ := by unfold Addr.add; split <;> simp_all

/-- Cells that are read: all that a load needs. -/
theorem part_run {G : Gh} {w : World} {t : TypeId} {s : Nat} {ag : Bool} (hs : szA P t = some s) (hg : isAggA P t = some ag) (cs : List AV) (off b o : Nat) (val : Nat → Value)
    (hm : ∀ i, i < cs.length → w.cell? ⟨b, o + i, none⟩ = some (val i)) (hv : ∀ i (h : i < cs.length), VR G cs[i] (val i)) {v : AV} (hp : partA ag s cs off = some v) :
    ∃ c, (loadVar t ⟨b, o + off, none⟩).run P w = .ok c w ∧ VR G v c := by
  unfold partA at hp
  cases ag with
  | true =>
    simp only [if_true] at hp
    split at hp
    · rename_i hl
      cases hp
      refine ⟨.agg ((List.range s).map fun j => val (off + j)).toArray, ?_, ?_⟩
      · simp only [loadVar, Sem.run_bind, isAggA_run hg, Result.andThen_ok, if_true, szA_run hs]
        rw [run_loadCells (P := P) w ⟨b, o + off, none⟩ s (fun j => val (off + j)) (fun j hj => by rw [add_eq, Nat.add_assoc]; exact hm _ (by omega))]
        rfl
      · refine .agg _ _ (by simp; omega) (fun i hi => ?_)
        have hi' : i < s := by simp at hi; omega
        have := hv (off + i) (by omega)
        simpa [Array.getD, hi', List.getElem_take, List.getElem_drop] using this
    · cases hp
  | false =>
    simp only [Bool.false_eq_true, if_false] at hp
    obtain ⟨hlt, rfl⟩ := List.getElem?_eq_some_iff.1 hp
    refine ⟨val off, ?_, hv off hlt⟩
    simp only [loadVar, Sem.run_bind, isAggA_run hg, Result.andThen_ok, Bool.false_eq_true, if_false, run_load, hm off hlt]

theorem toArray_getD (l : List Value) (i : Nat) : l.toArray.getD i Go.undef = l.getD i Go.undef := by
  by_cases h : i < l.length
  · simp [Array.getD, List.getD, h]
  · simp [Array.getD, List.getD, h]
theorem cells_eq {S : St} {n : Nat} {cs : List AV} (h : S.cells n = some cs) : ∃ blk, S.mem n = some blk ∧ (blk = .cells cs ∨ ∃ ty, blk = .own ty cs) := by
  unfold St.cells at h
  split at h
  · cases h; exact ⟨_, by assumption, .inl rfl⟩
  · cases h; exact ⟨_, by assumption, .inr ⟨_, rfl⟩⟩
  · cases h

variable {w0 w : World} {G : Gh} {F : Nat → Option Blk} {S : St}

/-- A named resource's cells. -/
theorem SR.cellsAt (h : SR w0 G (ov S.mem F) w) {n : Nat} {cs : List AV} (hc : S.cells n = some cs) {b o : Nat} (hio : G.io n = some (b, o)) :
    w0.heap.size ≤ b ∧ ∃ ccs ty, w.heap[b]? = some (.cells ccs ty (0, 0)) ∧ o + cs.length ≤ ccs.size ∧ (∀ i (h : i < cs.length), VR G cs[i] (ccs.getD (o + i) Go.undef)) ∧ (∀ off, o ≤ off → G.M b off = none) := by
  obtain ⟨blk, hm, hk⟩ := cells_eq hc
  obtain ⟨b', o', h1, h2, h3⟩ := h.res n _ (ov_some hm)
  rw [hio] at h1; cases h1
  rcases hk with rfl | ⟨ty, rfl⟩
  · exact ⟨h2, h3⟩
  · obtain ⟨ccs, k1, rfl, k2, k3, k4⟩ := h3
    exact ⟨h2, ccs, ty, k1, by omega, fun i hi => by rw [Nat.zero_add]; exact k3 i hi, fun off _ => k4 off⟩

theorem cell_of {w : World} {b : Nat} {ccs : Array Value} {ty : TypeId} {fr : Nat × Nat} (h : w.heap[b]? = some (.cells ccs ty fr)) (i : Nat) : w.cell? ⟨b, i, none⟩ = ccs[i]? := by simp [World.cell?, h]

theorem getD_some {ccs : Array Value} {i : Nat} (h : i < ccs.size) : ccs[i]? = some (ccs.getD i Go.undef) := by simp [Array.getD, h]

theorem sim_load (h : SR w0 G (ov S.mem F) w) {t : TypeId} {x v : AV} {c : Value} (hx : VR G x c) (hl : loadA P S t x = some v) : ∃ cv, (Instr.loadAt t c).run P w = .ok cv w ∧ VR G v cv := by
  unfold loadA at hl
  split at hl
  · rename_i s ag n off hs hg
    obtain ⟨cs, hcs, hp⟩ := Option.bind_eq_some_iff.1 hl
    cases hx with
    | ptr _ _ b o hio =>
      obtain ⟨_, ccs, ty, hb, hlen, hv, _⟩ := h.cellsAt hcs hio
      obtain ⟨c, h1, h2⟩ := part_run (P := P) (w := w) hs hg cs off b o (fun i => ccs.getD (o + i) Go.undef) (fun i hi => by rw [cell_of hb, getD_some (by omega)]) hv hp
      exact ⟨c, by simpa [Instr.loadAt, Instr.sureAddr] using h1, h2⟩
  · rename_i s ag cs off hs hg
    cases hx with
    | cptr _ _ b o val hm hv =>
      obtain ⟨c, h1, h2⟩ := part_run (P := P) (w := w) hs hg cs off b o val (fun i hi => h.imm _ _ _ (hm i hi)) hv hl
      exact ⟨c, by simpa [Instr.loadAt, Instr.sureAddr] using h1, h2⟩
  · cases hl

/-- A block of the call's own turned in place. -/
theorem SR.turn {R : Nat → Option Blk} (h : SR w0 G R w) {n b o : Nat} {blk0 blk : Blk} (hn : R n = some blk0) (hio : G.io n = some (b, o)) {w' : World}
    (hos : w'.os = w.os) (htape : w'.tape = w.tape) (hout : w'.output = w.output) (hsz : w'.heap.size = w.heap.size) (hoth : ∀ k, k ≠ b → w'.heap[k]? = w.heap[k]?)
    (himm : ∀ off v, G.M b off = some v → w'.cell? ⟨b, off, none⟩ = some v) (hsize : ∀ m, G.sz b = some m → ∃ ccs ty fr, w'.heap[b]? = some (.cells ccs ty fr) ∧ m ≤ ccs.size)
    (hblk : BR G w' b o blk) : SR w0 G (upd R n (some blk)) w' := by
  obtain ⟨b', o', h1, hge, _⟩ := h.res n blk0 hn
  rw [hio] at h1; cases h1
  refine ⟨h.below.trans ⟨hos, htape, hout, by omega, fun k hk => hoth k (by omega)⟩, ?_, ?_, ?_, ?_, h.laid⟩
  · intro c off v hv
    by_cases e : c = b
    · subst e; exact himm off v hv
    · rw [World.cell?_of_block (w := w) (hoth c e)]; exact h.imm c off v hv
  · intro c m hm
    by_cases e : c = b
    · subst e; exact hsize m hm
    · rw [hoth c e]; exact h.size c m hm
  · intro m x hm
    by_cases e : m = n
    · subst e
      simp only [upd, if_true, Option.some.injEq] at hm
      subst hm
      exact ⟨b, o, hio, hge, hblk⟩
    · simp only [upd, if_neg e] at hm
      obtain ⟨c, oc, h1, h2, h3⟩ := h.res m x hm
      exact ⟨c, oc, h1, h2, BR.of_block (hoth c (h.apart m n x blk0 c oc b o hm hn e h1 hio)) h3⟩
  · intro m1 m2 x y c oc c' oc' hx hy hne h1 h2
    have key : ∀ m z, upd R n (some blk) m = some z → ∃ z', R m = some z' := by
      intro m z hz
      by_cases e : m = n
      · subst e; exact ⟨_, hn⟩
      · simp only [upd, if_neg e] at hz; exact ⟨z, hz⟩
    obtain ⟨x', hx'⟩ := key m1 x hx
    obtain ⟨y', hy'⟩ := key m2 y hy
    exact h.apart m1 m2 x' y' c oc c' oc' hx' hy' hne h1 h2

theorem ov_upd (m F : Nat → Option Blk) (n : Nat) (b : Blk) : upd (ov m F) n (some b) = ov (upd m n (some b)) F := by
  funext k
  by_cases e : k = n
  · subst e; simp [upd, ov]
  · simp [upd, ov, e]

theorem setsA_length : ∀ (vs : List AV) (cs : List AV) (off : Nat), (setsA cs off vs).length = cs.length
  | [], _, _ => rfl
  | v :: vs, cs, off => by simp [setsA, setsA_length vs]
theorem setsA_out : ∀ (vs : List AV) (cs : List AV) (off i : Nat), i < off ∨ off + vs.length ≤ i → (setsA cs off vs)[i]? = cs[i]?
  | [], _, _, _, _ => rfl
  | v :: vs, cs, off, i, h => by
    simp only [List.length_cons] at h
    rw [setsA, setsA_out vs _ _ _ (by omega), List.getElem?_set_ne (by omega)]
theorem setsA_in : ∀ (vs : List AV) (cs : List AV) (off j : Nat), off + vs.length ≤ cs.length → j < vs.length → (setsA cs off vs)[off + j]? = vs[j]?
  | [], _, _, _, _, h => by simp at h
  | v :: vs, cs, off, 0, h, _ => by
    simp only [List.length_cons] at h
    rw [setsA, setsA_out vs _ _ _ (by omega)]
    simp only [Nat.add_zero, List.getElem?_cons_zero]
    rw [List.getElem?_set_self (by omega)]
  | v :: vs, cs, off, j + 1, h, hj => by
    simp only [List.length_cons] at h hj
    have := setsA_in vs (cs.set off v) (off + 1) j (by simp; omega) (by omega)
    rw [setsA, show off + (j + 1) = off + 1 + j by omega, this]
    simp

/-- Cells stored one behind the other into a block of the call's own. -/
theorem store_cells (h : SR w0 G (ov S.mem F) w) {n off : Nat} {cs : List AV} (hcs : S.cells n = some cs) {b o : Nat} (hio : G.io n = some (b, o)) (vs : List AV) (cvs : List Value) (hl : vs.length = cvs.length)
    (hv : ∀ i (h : i < vs.length), VR G vs[i] (cvs.getD i Go.undef)) (hok : vs.all AV.leafOk = true) (hfit : off + vs.length ≤ cs.length) :
    ∃ w', (storeCells ⟨b, o + off, none⟩ cvs).run P w = .ok () w' ∧ SR w0 G (ov (S.set n (some (.cells (setsA cs off vs)))).mem F) w' := by
  obtain ⟨hge, ccs, ty, hb, hlen, hcv, hM⟩ := h.cellsAt hcs hio
  have h1 : ∀ v ∈ cvs, v.oneCell' = true := by
    intro v hvm
    obtain ⟨i, hi, rfl⟩ := List.getElem_of_mem hvm
    have := hv i (by omega)
    simp only [List.getD, List.getElem?_eq_getElem hi, Option.getD_some] at this
    exact this.leaf (List.all_eq_true.1 hok _ (List.getElem_mem (by omega)))
  have hst := run_storeCells_at (P := P) b (o + off) ty cvs 0 ccs w hb (by omega) h1
  simp only [Nat.add_zero] at hst
  refine ⟨_, hst, ?_⟩
  have hrow := setRow_heap w b ccs (ccs.toList.take (o + off) ++ cvs ++ ccs.toList.drop (o + off + cvs.length)).toArray ty (0, 0) hb
  have hnewlen : (ccs.toList.take (o + off) ++ cvs ++ ccs.toList.drop (o + off + cvs.length)).length = ccs.size := by
    simp; omega
  show SR w0 G (ov (upd S.mem n _) F) _
  rw [← ov_upd]
  obtain ⟨blk0, hm0, _⟩ := cells_eq hcs
  refine h.turn (ov_some hm0) hio rfl rfl rfl (setRow_size _ _ _) (fun k hk => setRow_other w b k _ hk) (fun off' v hM' => ?_) (fun m hm => ?_) ?_
  · have hlt : off' < o := by
      rcases Nat.lt_or_ge off' o with h' | h'
      · exact h'
      · rw [hM off' h'] at hM'; cases hM'
    rw [cell_setRow_same w b off' ccs _ ty (0, 0) hb]
    have h2 := h.imm b off' v hM'
    rw [cell_of hb] at h2
    rw [List.getElem?_toArray, List.append_assoc, List.getElem?_append_left (by simp; have := (Array.getElem?_eq_some_iff.1 h2).1; omega), List.getElem?_take, if_pos (by omega), Array.getElem?_toList]
    exact h2
  · obtain ⟨ccs', ty', fr', e1, e2⟩ := h.size b m hm
    rw [hb] at e1; cases e1
    exact ⟨_, _, _, hrow, by simpa using (by rw [List.size_toArray, hnewlen]; exact e2 : m ≤ (ccs.toList.take (o + off) ++ cvs ++ ccs.toList.drop (o + off + cvs.length)).toArray.size)⟩
  · refine ⟨_, ty, hrow, ?_, fun i hi => ?_, hM⟩
    · rw [setsA_length, List.size_toArray, hnewlen]; exact hlen
    · rw [setsA_length] at hi
      rw [toArray_getD]
      have e2 : (setsA cs off vs)[i]? = some ((setsA cs off vs)[i]'(by rw [setsA_length]; exact hi)) := List.getElem?_eq_getElem _
      rcases Nat.lt_or_ge i off with h3 | h3
      · have e3 : (setsA cs off vs)[i]'(by rw [setsA_length]; exact hi) = cs[i] := by
          rw [setsA_out vs cs off i (.inl h3), List.getElem?_eq_getElem hi] at e2
          exact (Option.some.inj e2).symm
        rw [e3, List.getD, List.append_assoc, List.getElem?_append_left (by simp; omega), List.getElem?_take, if_pos (by omega), Array.getElem?_toList, getD_some (by omega)]
        exact hcv i hi
      · rcases Nat.lt_or_ge i (off + vs.length) with h4 | h4
        · have e3 : (setsA cs off vs)[i]'(by rw [setsA_length]; exact hi) = vs[i - off]'(by omega) := by
            have := setsA_in vs cs off (i - off) hfit (by omega)
            rw [show off + (i - off) = i by omega] at this
            rw [this, List.getElem?_eq_getElem (by omega)] at e2
            exact (Option.some.inj e2).symm
          rw [e3, List.getD, List.append_assoc, List.getElem?_append_right (by simp; omega), List.getElem?_append_left (by simp; omega)]
          have := hv (i - off) (by omega)
          simpa [List.getD, Nat.min_eq_left (show o + off ≤ ccs.size by omega), show o + i - (o + off) = i - off by omega] using this
        · have e3 : (setsA cs off vs)[i]'(by rw [setsA_length]; exact hi) = cs[i] := by
            rw [setsA_out vs cs off i (.inr h4), List.getElem?_eq_getElem hi] at e2
            exact (Option.some.inj e2).symm
          rw [e3, List.getD, List.getElem?_append_right (by simp; omega), List.getElem?_drop]
          have := hcv i hi
          have e5 : o + off + cvs.length + (o + i - (List.take (o + off) ccs.toList ++ cvs).length) = o + i := by simp; omega
          rw [e5, Array.getElem?_toList, getD_some (by omega)]
          exact this

theorem sim_store (h : SR w0 G (ov S.mem F) w) {t : TypeId} {x y : AV} {c d : Value} (hx : VR G x c) (hy : VR G y d) {S' : St} (hst : storeA P S t x y = some S') :
    ∃ w', (Instr.storeAt t c d).run P w = .ok () w' ∧ SR w0 G (ov S'.mem F) w' ∧ S'.next = S.next ∧ ∀ n, S.mem n = none → S'.mem n = none := by
  unfold storeA at hst
  split at hst
  · rename_i s n off hs
    obtain ⟨cs, hcs, hif⟩ := Option.bind_eq_some_iff.1 hst
    split at hif
    · rename_i hc3
      obtain ⟨hl, hok, hfit⟩ := hc3
      cases hif
      cases hx with
      | ptr _ _ b o hio =>
        have hk : y.known = true := by
          cases y <;> first | rfl | (simp [AV.cells, AV.leafOk] at hok)
        obtain ⟨hyl, hyv⟩ := hy.cells hk
        obtain ⟨w', h1, h2⟩ := store_cells (P := P) (off := off) h hcs hio y.cells d.cells.toList (by simpa using hyl) (fun i hi => by
          have := hyv i hi
          simpa [List.getD, Array.getD, show i < d.cells.size by omega] using this) hok (by omega)
        refine ⟨w', ?_, h2, rfl, fun m hm => ?_⟩
        · have hne : d.cells.size = s := by omega
          simpa [Instr.storeAt, Instr.sureAddr, storeVar, szA_run hs, hne] using h1
        · show upd S.mem n _ m = none
          unfold upd
          split
          · rename_i e; subst e; obtain ⟨blk0, hm0, _⟩ := cells_eq hcs; rw [hm0] at hm; cases hm
          · exact hm
    · cases hif
  · cases hst

/-- A new row of cells. -/
theorem new_own (h : SR w0 G (ov S.mem F) w) (hwf : Wf S) (hFO : FO S F (S.next + 1)) (hFN : FN G S.next (S.next + 1)) (ty : TypeId) (cs : List AV) (ccs : Array Value) (hl : cs.length = ccs.size)
    (hv : ∀ i (h : i < cs.length), VR G cs[i] (ccs.getD i Go.undef)) {w' : World} (on : One w (.cells ccs ty) w') :
    ∃ G', GE G G' S.next (S.next + 1) ∧ SR w0 G' (ov (S.new (.own ty cs)).mem F) w' ∧ G'.io S.next = some (w.heap.size, 0) ∧ G'.sz w.heap.size = some ccs.size ∧ Grow S (S.new (.own ty cs)) := by
  have hR : ov S.mem F S.next = none := by
    unfold ov
    rw [hwf _ (Nat.le_refl _)]
    cases hf : F S.next with
    | none => rfl
    | some x => have := (hFO _ _ hf).2; omega
  obtain ⟨h1, h2⟩ := h.push on S.next (.own ty cs) 0 (hFN _ (Nat.le_refl _) (by omega)) hR (some ccs.size) (fun m hm => by cases hm; exact ⟨_, _, _, rfl, Nat.le_refl _⟩) (fun _ => none) (fun _ _ h => by cases h)
    (fun G' hG' hM => ⟨ccs, on.new, rfl, hl, fun i hi => (hv i hi).mono hG', fun off => hM off⟩)
  refine ⟨_, h1, by rw [ov_upd] at h2; exact h2, by simp [Gh.name, upd], by simp [Gh.name, Gh.ext], ⟨by simp [St.new], fun n hn hm => ?_, fun n hn => ?_⟩⟩
  · show upd S.mem S.next _ n = none
    unfold upd; rw [if_neg (by omega)]; exact hm
  · show upd S.mem S.next _ n = none
    have : S.next + 1 ≤ n := hn
    unfold upd; rw [if_neg (by omega)]; exact hwf n (by omega)
theorem new_cells (h : SR w0 G (ov S.mem F) w) (hwf : Wf S) (hFO : FO S F (S.next + 1)) (hFN : FN G S.next (S.next + 1)) (ty : TypeId) (cs : List AV) (ccs : Array Value) (hl : cs.length ≤ ccs.size)
    (hv : ∀ i (h : i < cs.length), VR G cs[i] (ccs.getD i Go.undef)) {w' : World} (on : One w (.cells ccs ty) w') :
    ∃ G', GE G G' S.next (S.next + 1) ∧ SR w0 G' (ov (S.new (.cells cs)).mem F) w' ∧ G'.io S.next = some (w.heap.size, 0) ∧ G'.sz w.heap.size = some ccs.size ∧ Grow S (S.new (.cells cs)) := by
  have hR : ov S.mem F S.next = none := by
    unfold ov
    rw [hwf _ (Nat.le_refl _)]
    cases hf : F S.next with
    | none => rfl
    | some x => have := (hFO _ _ hf).2; omega
  obtain ⟨h1, h2⟩ := h.push on S.next (.cells cs) 0 (hFN _ (Nat.le_refl _) (by omega)) hR (some ccs.size) (fun m hm => by cases hm; exact ⟨_, _, _, rfl, Nat.le_refl _⟩) (fun _ => none) (fun _ _ h => by cases h)
    (fun G' hG' hM => ⟨ccs, ty, on.new, by omega, fun i hi => by rw [Nat.zero_add]; exact (hv i hi).mono hG', fun off _ => hM off⟩)
  refine ⟨_, h1, by rw [ov_upd] at h2; exact h2, by simp [Gh.name, upd], by simp [Gh.name, Gh.ext], ⟨by simp [St.new], fun n hn hm => ?_, fun n hn => ?_⟩⟩
  · show upd S.mem S.next _ n = none
    unfold upd; rw [if_neg (by omega)]; exact hm
  · show upd S.mem S.next _ n = none
    have : S.next + 1 ≤ n := hn
    unfold upd; rw [if_neg (by omega)]; exact hwf n (by omega)
end
end Go.Proofs.YtnbjhgaaollhcaaDoor.VM
