import Derived.Test.YtfphpjinimfhfaaVMRel
import Derived.Deep.AppendSrc
import Derived.Deep.Upon
/-! Loads, stores, new blocks, addresses. -/
namespace Go.Proofs.Ytfphpjinimfhfaa.VM
set_option linter.unusedSectionVars false
open Go.RowKit
variable [Glob]

def ov (m F : Nat → Option Blk) : Nat → Option Blk := fun n => match m n with | some b => some b | none => F n

theorem ov_some {m F : Nat → Option Blk} {n : Nat} {b : Blk} (h : m n = some b) : ov m F n = some b := by simp [ov, h]

/-- The frame: names beside. -/
def FO (S : St) (F : Nat → Option Blk) (hi : Nat) : Prop := ∀ n blk, F n = some blk → S.mem n = none ∧ (n < S.next ∨ hi ≤ n)
def FN (G : Gh) (lo hi : Nat) : Prop := ∀ n, lo ≤ n → n < hi → G.io n = none

structure Grow (S S' : St) : Prop where
  next : S.next ≤ S'.next
  old : ∀ n, n < S.next → S.mem n = none → S'.mem n = none
  free : ∀ n, S'.next ≤ n → S'.mem n = none

def Wf (S : St) : Prop := ∀ n, S.next ≤ n → S.mem n = none

theorem Grow.refl {S : St} (h : Wf S) : Grow S S := ⟨Nat.le_refl _, fun _ _ h => h, h⟩
theorem Grow.trans {S S1 S2 : St} (h : Grow S S1) (k : Grow S1 S2) : Grow S S2 :=
  ⟨Nat.le_trans h.next k.next, fun n hn hm => k.old n (by have := h.next; omega) (h.old n hn hm), k.free⟩
theorem Grow.wf {S S' : St} (h : Grow S S') : Wf S' := h.free

section
variable {P : Program}

theorem szA_run {t : TypeId} {s : Nat} (h : szA P t = some s) (w : World) : (sizeOf t).run P w = .ok s w := by
  unfold szA at h
  cases hi : P.info? t with
  | none => rw [hi] at h; cases h
  | some i => rw [hi] at h; cases h; simp [sizeOf, typeInfo, hi]
theorem szA_info {t : TypeId} {s : Nat} (h : szA P t = some s) : ∃ i, P.info? t = some i ∧ i.size = s := by
  unfold szA at h
  cases hi : P.info? t with
  | none => rw [hi] at h; cases h
  | some i => rw [hi] at h; cases h; exact ⟨i, rfl, rfl⟩
theorem isAggA_run {t : TypeId} {b : Bool} (h : isAggA P t = some b) (w : World) : (isAgg t).run P w = .ok b w := by
  unfold isAggA at h
  split at h <;> first | (cases h; done) | (rename_i hu; cases h; simp [isAgg, run_underlying hu]) | skip
theorem zeroA_run {t : TypeId} {z : AV} (h : zeroA P t = some z) (w : World) : ∃ i c, P.info? t = some i ∧ i.zero = some c ∧ (zeroValue t).run P w = .ok c w ∧ z = ofValue c ∧ z.known = true := by
  unfold zeroA at h
  obtain ⟨c, hc, h⟩ := Option.bind_eq_some_iff.1 h
  obtain ⟨i, hi, hz⟩ := Option.bind_eq_some_iff.1 hc
  split at h
  · rename_i hk
    cases h
    exact ⟨i, c, hi, hz, by simp [zeroValue, typeInfo, hi, hz], rfl, hk⟩
  · cases h
theorem elemA_und {t e : TypeId} (h : elemA P t = some e) : P.underlying t = some (.slice e) := by
  unfold elemA at h
  split at h
  · cases h; assumption
  · cases h

theorem add_eq (b o j : Nat) : (⟨b, o, none⟩ : Addr).add j = ⟨b, o + j, none⟩ := by unfold Addr.add; split <;> simp_all

/-- Cells that are read: all that a load needs. -/
theorem part_run {G : Gh} {w : World} {t : TypeId} {s : Nat} {ag : Bool} (hs : szA P t = some s) (hg : isAggA P t = some ag) (cs : List AV) (off b o : Nat) (val : Nat → Value)
    (hm : ∀ i, i < cs.length → w.cell? ⟨b, o + i, none⟩ = some (val i)) (hv : ∀ i (h : i < cs.length), VR G cs[i] (val i)) {v : AV} (hp : partA ag s cs off = some v) :
    ∃ c, (loadVar t ⟨b, o + off, none⟩).run P w = .ok c w ∧ VR G v c := by
  unfold partA at hp
  cases ag with
  | true =>
    simp only [if_true] at hp
    split at hp
    · rename_i hl
      cases hp
      refine ⟨.agg ((List.range s).map fun j => val (off + j)).toArray, ?_, ?_⟩
      · simp only [loadVar, Sem.run_bind, isAggA_run hg, Result.andThen_ok, if_true, szA_run hs]
        rw [run_loadCells (P := P) w ⟨b, o + off, none⟩ s (fun j => val (off + j)) (fun j hj => by rw [add_eq, Nat.add_assoc]; exact hm _ (by omega))]
        rfl
      · refine .agg _ _ (by simp; omega) (fun i hi => ?_)
        have hi' : i < s := by simp at hi; omega
        have := hv (off + i) (by omega)
        simpa [Array.getD, hi', List.getElem_take, List.getElem_drop] using this
    · cases hp
  | false =>
    simp only [Bool.false_eq_true, if_false] at hp
    obtain ⟨hlt, rfl⟩ := List.getElem?_eq_some_iff.1 hp
    refine ⟨val off, ?_, hv off hlt⟩
    simp only [loadVar, Sem.run_bind, isAggA_run hg, Result.andThen_ok, Bool.false_eq_true, if_false, run_load, hm off hlt]

theorem toArray_getD (l : List Value) (i : Nat) : l.toArray.getD i Go.undef = l.getD i Go.undef := by
  by_cases h : i < l.length
  · simp [Array.getD, List.getD, h]
  · simp [Array.getD, List.getD, h]
theorem cells_eq {S : St} {n : Nat} {cs : List AV} (h : S.cells n = some cs) : ∃ blk, S.mem n = some blk ∧ (blk = .cells cs ∨ ∃ ty, blk = .own ty cs) := by
  unfold St.cells at h
  split at h
  · cases h; exact ⟨_, by assumption, .inl rfl⟩
  · cases h; exact ⟨_, by assumption, .inr ⟨_, rfl⟩⟩
  · cases h

variable {w0 w : World} {G : Gh} {F : Nat → Option Blk} {S : St}

/-- A named resource's cells. -/
theorem SR.cellsAt (h : SR w0 G (ov S.mem F) w) {n : Nat} {cs : List AV} (hc : S.cells n = some cs) {b o : Nat} (hio : G.io n = some (b, o)) :
    w0.heap.size ≤ b ∧ ∃ ccs ty, w.heap[b]? = some (.cells ccs ty (0, 0)) ∧ o + cs.length ≤ ccs.size ∧ (∀ i (h : i < cs.length), VR G cs[i] (ccs.getD (o + i) Go.undef)) ∧ (∀ off, o ≤ off → G.M b off = none) := by
  obtain ⟨blk, hm, hk⟩ := cells_eq hc
  obtain ⟨b', o', h1, h2, h3⟩ := h.res n _ (ov_some hm)
  rw [hio] at h1; cases h1
  rcases hk with rfl | ⟨ty, rfl⟩
  · exact ⟨h2, h3⟩
  · obtain ⟨ccs, k1, rfl, k2, k3, k4⟩ := h3
    exact ⟨h2, ccs, ty, k1, by omega, fun i hi => by rw [Nat.zero_add]; exact k3 i hi, fun off _ => k4 off⟩

theorem cell_of {w : World} {b : Nat} {ccs : Array Value} {ty : TypeId} {fr : Nat × Nat} (h : w.heap[b]? = some (.cells ccs ty fr)) (i : Nat) : w.cell? ⟨b, i, none⟩ = ccs[i]? := by simp [World.cell?, h]

theorem getD_some {ccs : Array Value} {i : Nat} (h : i < ccs.size) : ccs[i]? = some (ccs.getD i Go.undef) := by simp [Array.getD, h]

theorem sim_load (h : SR w0 G (ov S.mem F) w) {t : TypeId} {x v : AV} {c : Value} (hx : VR G x c) (hl : loadA P S t x = some v) : ∃ cv, (Instr.loadAt t c).run P w = .ok cv w ∧ VR G v cv := by
  unfold loadA at hl
  split at hl
  · rename_i s ag n off hs hg
    obtain ⟨cs, hcs, hp⟩ := Option.bind_eq_some_iff.1 hl
    cases hx with
    | ptr _ _ b o hio =>
      obtain ⟨_, ccs, ty, hb, hlen, hv, _⟩ := h.cellsAt hcs hio
      obtain ⟨c, h1, h2⟩ := part_run (P := P) (w := w) hs hg cs off b o (fun i => ccs.getD (o + i) Go.undef) (fun i hi => by rw [cell_of hb, getD_some (by omega)]) hv hp
      exact ⟨c, by simpa [Instr.loadAt, Instr.sureAddr] using h1, h2⟩
  · rename_i s ag cs off hs hg
    cases hx with
    | cptr _ _ b o val hm hv =>
      obtain ⟨c, h1, h2⟩ := part_run (P := P) (w := w) hs hg cs off b o val (fun i hi => h.imm _ _ _ (hm i hi)) hv hl
      exact ⟨c, by simpa [Instr.loadAt, Instr.sureAddr] using h1, h2⟩
  · cases hl

/-- A block of the call's own turned in place. -/
theorem SR.turn {R : Nat → Option Blk} (h : SR w0 G R w) {n b o : Nat} {blk0 blk : Blk} (hn : R n = some blk0) (hio : G.io n = some (b, o)) {w' : World}
    (hos : w'.os = w.os) (htape : w'.tape = w.tape) (hout : w'.output = w.output) (hsz : w'.heap.size = w.heap.size) (hoth : ∀ k, k ≠ b → w'.heap[k]? = w.heap[k]?)
    (himm : ∀ off v, G.M b off = some v → w'.cell? ⟨b, off, none⟩ = some v) (hsize : ∀ m, G.sz b = some m → ∃ ccs ty fr, w'.heap[b]? = some (.cells ccs ty fr) ∧ m ≤ ccs.size)
    (hblk : BR G w' b o blk) : SR w0 G (upd R n (some blk)) w' := by
  obtain ⟨b', o', h1, hge, _⟩ := h.res n blk0 hn
  rw [hio] at h1; cases h1
  refine ⟨h.below.trans ⟨hos, htape, hout, by omega, fun k hk => hoth k (by omega)⟩, ?_, ?_, ?_, ?_, h.laid⟩
  · intro c off v hv
    by_cases e : c = b
    · subst e; exact himm off v hv
    · rw [World.cell?_of_block (w := w) (hoth c e)]; exact h.imm c off v hv
  · intro c m hm
    by_cases e : c = b
    · subst e; exact hsize m hm
    · rw [hoth c e]; exact h.size c m hm
  · intro m x hm
    by_cases e : m = n
    · subst e
      simp only [upd, if_true, Option.some.injEq] at hm
      subst hm
      exact ⟨b, o, hio, hge, hblk⟩
    · simp only [upd, if_neg e] at hm
      obtain ⟨c, oc, h1, h2, h3⟩ := h.res m x hm
      exact ⟨c, oc, h1, h2, BR.of_block (hoth c (h.apart m n x blk0 c oc b o hm hn e h1 hio)) h3⟩
  · intro m1 m2 x y c oc c' oc' hx hy hne h1 h2
    have key : ∀ m z, upd R n (some blk) m = some z → ∃ z', R m = some z' := by
      intro m z hz
      by_cases e : m = n
      · subst e; exact ⟨_, hn⟩
      · simp only [upd, if_neg e] at hz; exact ⟨z, hz⟩
    obtain ⟨x', hx'⟩ := key m1 x hx
    obtain ⟨y', hy'⟩ := key m2 y hy
    exact h.apart m1 m2 x' y' c oc c' oc' hx' hy' hne h1 h2

theorem ov_upd (m F : Nat → Option Blk) (n : Nat) (b : Blk) : upd (ov m F) n (some b) = ov (upd m n (some b)) F := by
  funext k
  by_cases e : k = n
  · subst e; simp [upd, ov]
  · simp [upd, ov, e]

theorem setsA_length : ∀ (vs : List AV) (cs : List AV) (off : Nat), (setsA cs off vs).length = cs.length
  | [], _, _ => rfl
  | v :: vs, cs, off => by simp [setsA, setsA_length vs]
theorem setsA_out : ∀ (vs : List AV) (cs : List AV) (off i : Nat), i < off ∨ off + vs.length ≤ i → (setsA cs off vs)[i]? = cs[i]?
  | [], _, _, _, _ => rfl
  | v :: vs, cs, off, i, h => by
    simp only [List.length_cons] at h
    rw [setsA, setsA_out vs _ _ _ (by omega), List.getElem?_set_ne (by omega)]
theorem setsA_in : ∀ (vs : List AV) (cs : List AV) (off j : Nat), off + vs.length ≤ cs.length → j < vs.length → (setsA cs off vs)[off + j]? = vs[j]?
  | [], _, _, _, _, h => by simp at h
  | v :: vs, cs, off, 0, h, _ => by
    simp only [List.length_cons] at h
    rw [setsA, setsA_out vs _ _ _ (by omega)]
    simp only [Nat.add_zero, List.getElem?_cons_zero]
    rw [List.getElem?_set_self (by omega)]
  | v :: vs, cs, off, j + 1, h, hj => by
    simp only [List.length_cons] at h hj
    have := setsA_in vs (cs.set off v) (off + 1) j (by simp; omega) (by omega)
    rw [setsA, show off + (j + 1) = off + 1 + j by omega, this]
    simp

/-- Cells stored one behind the other into a block of the call's own. -/
theorem store_cells (h : SR w0 G (ov S.mem F) w) {n off : Nat} {cs : List AV} (hcs : S.cells n = some cs) {b o : Nat} (hio : G.io n = some (b, o)) (vs : List AV) (cvs : List Value) (hl : vs.length = cvs.length)
    (hv : ∀ i (h : i < vs.length), VR G vs[i] (cvs.getD i Go.undef)) (hok : vs.all AV.leafOk = true) (hfit : off + vs.length ≤ cs.length) :
    ∃ w', (storeCells ⟨b, o + off, none⟩ cvs).run P w = .ok () w' ∧ SR w0 G (ov (S.set n (some (.cells (setsA cs off vs)))).mem F) w' := by
  obtain ⟨hge, ccs, ty, hb, hlen, hcv, hM⟩ := h.cellsAt hcs hio
  have h1 : ∀ v ∈ cvs, v.oneCell' = true := by
    intro v hvm
    obtain ⟨i, hi, rfl⟩ := List.getElem_of_mem hvm
    have := hv i (by omega)
    simp only [List.getD, List.getElem?_eq_getElem hi, Option.getD_some] at this
    exact this.leaf (List.all_eq_true.1 hok _ (List.getElem_mem (by omega)))
  have hst := run_storeCells_at (P := P) b (o + off) ty cvs 0 ccs w hb (by omega) h1
  simp only [Nat.add_zero] at hst
  refine ⟨_, hst, ?_⟩
  have hrow := setRow_heap w b ccs (ccs.toList.take (o + off) ++ cvs ++ ccs.toList.drop (o + off + cvs.length)).toArray ty (0, 0) hb
  have hnewlen : (ccs.toList.take (o + off) ++ cvs ++ ccs.toList.drop (o + off + cvs.length)).length = ccs.size := by
    simp; omega
  show SR w0 G (ov (upd S.mem n _) F) _
  rw [← ov_upd]
  obtain ⟨blk0, hm0, _⟩ := cells_eq hcs
  refine h.turn (ov_some hm0) hio rfl rfl rfl (setRow_size _ _ _) (fun k hk => setRow_other w b k _ hk) (fun off' v hM' => ?_) (fun m hm => ?_) ?_
  · have hlt : off' < o := by
      rcases Nat.lt_or_ge off' o with h' | h'
      · exact h'
      · rw [hM off' h'] at hM'; cases hM'
    rw [cell_setRow_same w b off' ccs _ ty (0, 0) hb]
    have h2 := h.imm b off' v hM'
    rw [cell_of hb] at h2
    rw [List.getElem?_toArray, List.append_assoc, List.getElem?_append_left (by simp; have := (Array.getElem?_eq_some_iff.1 h2).1; omega), List.getElem?_take, if_pos (by omega), Array.getElem?_toList]
    exact h2
  · obtain ⟨ccs', ty', fr', e1, e2⟩ := h.size b m hm
    rw [hb] at e1; cases e1
    exact ⟨_, _, _, hrow, by simpa using (by rw [List.size_toArray, hnewlen]; exact e2 : m ≤ (ccs.toList.take (o + off) ++ cvs ++ ccs.toList.drop (o + off + cvs.length)).toArray.size)⟩
  · refine ⟨_, ty, hrow, ?_, fun i hi => ?_, hM⟩
    · rw [setsA_length, List.size_toArray, hnewlen]; exact hlen
    · rw [setsA_length] at hi
      rw [toArray_getD]
      have e2 : (setsA cs off vs)[i]? = some ((setsA cs off vs)[i]'(by rw [setsA_length]; exact hi)) := List.getElem?_eq_getElem _
      rcases Nat.lt_or_ge i off with h3 | h3
      · have e3 : (setsA cs off vs)[i]'(by rw [setsA_length]; exact hi) = cs[i] := by
          rw [setsA_out vs cs off i (.inl h3), List.getElem?_eq_getElem hi] at e2
          exact (Option.some.inj e2).symm
        rw [e3, List.getD, List.append_assoc, List.getElem?_append_left (by simp; omega), List.getElem?_take, if_pos (by omega), Array.getElem?_toList, getD_some (by omega)]
        exact hcv i hi
      · rcases Nat.lt_or_ge i (off + vs.length) with h4 | h4
        · have e3 : (setsA cs off vs)[i]'(by rw [setsA_length]; exact hi) = vs[i - off]'(by omega) := by
            have := setsA_in vs cs off (i - off) hfit (by omega)
            rw [show off + (i - off) = i by omega] at this
            rw [this, List.getElem?_eq_getElem (by omega)] at e2
            exact (Option.some.inj e2).symm
          rw [e3, List.getD, List.append_assoc, List.getElem?_append_right (by simp; omega), List.getElem?_append_left (by simp; omega)]
          have := hv (i - off) (by omega)
          simpa [List.getD, Nat.min_eq_left (show o + off ≤ ccs.size by omega), show o + i - (o + off) = i - off by omega] using this
        · have e3 : (setsA cs off vs)[i]'(by rw [setsA_length]; exact hi) = cs[i] := by
            rw [setsA_out vs cs off i (.inr h4), List.getElem?_eq_getElem hi] at e2
            exact (Option.some.inj e2).symm
          rw [e3, List.getD, List.getElem?_append_right (by simp; omega), List.getElem?_drop]
          have := hcv i hi
          have e5 : o + off + cvs.length + (o + i - (List.take (o + off) ccs.toList ++ cvs).length) = o + i := by simp; omega
          rw [e5, Array.getElem?_toList, getD_some (by omega)]
          exact this

theorem sim_store (h : SR w0 G (ov S.mem F) w) {t : TypeId} {x y : AV} {c d : Value} (hx : VR G x c) (hy : VR G y d) {S' : St} (hst : storeA P S t x y = some S') :
    ∃ w', (Instr.storeAt t c d).run P w = .ok () w' ∧ SR w0 G (ov S'.mem F) w' ∧ S'.next = S.next ∧ ∀ n, S.mem n = none → S'.mem n = none := by
  unfold storeA at hst
  split at hst
  · rename_i s n off hs
    obtain ⟨cs, hcs, hif⟩ := Option.bind_eq_some_iff.1 hst
    split at hif
    · rename_i hc3
      obtain ⟨hl, hok, hfit⟩ := hc3
      cases hif
      cases hx with
      | ptr _ _ b o hio =>
        have hk : y.known = true := by
          cases y <;> first | rfl | (simp [AV.cells, AV.leafOk] at hok)
        obtain ⟨hyl, hyv⟩ := hy.cells hk
        obtain ⟨w', h1, h2⟩ := store_cells (P := P) (off := off) h hcs hio y.cells d.cells.toList (by simpa using hyl) (fun i hi => by
          have := hyv i hi
          simpa [List.getD, Array.getD, show i < d.cells.size by omega] using this) hok (by omega)
        refine ⟨w', ?_, h2, rfl, fun m hm => ?_⟩
        · have hne : d.cells.size = s := by omega
          simpa [Instr.storeAt, Instr.sureAddr, storeVar, szA_run hs, hne] using h1
        · show upd S.mem n _ m = none
          unfold upd
          split
          · rename_i e; subst e; obtain ⟨blk0, hm0, _⟩ := cells_eq hcs; rw [hm0] at hm; cases hm
          · exact hm
    · cases hif
  · cases hst

/-- A new row of cells. -/
theorem new_own (h : SR w0 G (ov S.mem F) w) (hwf : Wf S) (hFO : FO S F (S.next + 1)) (hFN : FN G S.next (S.next + 1)) (ty : TypeId) (cs : List AV) (ccs : Array Value) (hl : cs.length = ccs.size)
    (hv : ∀ i (h : i < cs.length), VR G cs[i] (ccs.getD i Go.undef)) {w' : World} (on : One w (.cells ccs ty) w') :
    ∃ G', GE G G' S.next (S.next + 1) ∧ SR w0 G' (ov (S.new (.own ty cs)).mem F) w' ∧ G'.io S.next = some (w.heap.size, 0) ∧ G'.sz w.heap.size = some ccs.size ∧ Grow S (S.new (.own ty cs)) := by
  have hR : ov S.mem F S.next = none := by
    unfold ov
    rw [hwf _ (Nat.le_refl _)]
    cases hf : F S.next with
    | none => rfl
    | some x => have := (hFO _ _ hf).2; omega
  obtain ⟨h1, h2⟩ := h.push on S.next (.own ty cs) 0 (hFN _ (Nat.le_refl _) (by omega)) hR (some ccs.size) (fun m hm => by cases hm; exact ⟨_, _, _, rfl, Nat.le_refl _⟩) (fun _ => none) (fun _ _ h => by cases h)
    (fun G' hG' hM => ⟨ccs, on.new, rfl, hl, fun i hi => (hv i hi).mono hG', fun off => hM off⟩)
  refine ⟨_, h1, by rw [ov_upd] at h2; exact h2, by simp [Gh.name, upd], by simp [Gh.name, Gh.ext], ⟨by simp [St.new], fun n hn hm => ?_, fun n hn => ?_⟩⟩
  · show upd S.mem S.next _ n = none
    unfold upd; rw [if_neg (by omega)]; exact hm
  · show upd S.mem S.next _ n = none
    have : S.next + 1 ≤ n := hn
    unfold upd; rw [if_neg (by omega)]; exact hwf n (by omega)
theorem new_cells (h : SR w0 G (ov S.mem F) w) (hwf : Wf S) (hFO : FO S F (S.next + 1)) (hFN : FN G S.next (S.next + 1)) (ty : TypeId) (cs : List AV) (ccs : Array Value) (hl : cs.length ≤ ccs.size)
    (hv : ∀ i (h : i < cs.length), VR G cs[i] (ccs.getD i Go.undef)) {w' : World} (on : One w (.cells ccs ty) w') :
    ∃ G', GE G G' S.next (S.next + 1) ∧ SR w0 G' (ov (S.new (.cells cs)).mem F) w' ∧ G'.io S.next = some (w.heap.size, 0) ∧ G'.sz w.heap.size = some ccs.size ∧ Grow S (S.new (.cells cs)) := by
  have hR : ov S.mem F S.next = none := by
    unfold ov
    rw [hwf _ (Nat.le_refl _)]
    cases hf : F S.next with
    | none => rfl
    | some x => have := (hFO _ _ hf).2; omega
  obtain ⟨h1, h2⟩ := h.push on S.next (.cells cs) 0 (hFN _ (Nat.le_refl _) (by omega)) hR (some ccs.size) (fun m hm => by cases hm; exact ⟨_, _, _, rfl, Nat.le_refl _⟩) (fun _ => none) (fun _ _ h => by cases h)
    (fun G' hG' hM => ⟨ccs, ty, on.new, by omega, fun i hi => by rw [Nat.zero_add]; exact (hv i hi).mono hG', fun off _ => hM off⟩)
  refine ⟨_, h1, by rw [ov_upd] at h2; exact h2, by simp [Gh.name, upd], by simp [Gh.name, Gh.ext], ⟨by simp [St.new], fun n hn hm => ?_, fun n hn => ?_⟩⟩
  · show upd S.mem S.next _ n = none
    unfold upd; rw [if_neg (by omega)]; exact hm
  · show upd S.mem S.next _ n = none
    have : S.next + 1 ≤ n := hn
    unfold upd; rw [if_neg (by omega)]; exact hwf n (by omega)
end
end Go.Proofs.Ytfphpjinimfhfaa.VM
/-! Operations that look at their operands alone, and those that make blocks. -/
namespace Go.Proofs.Ytfphpjinimfhfaa.VM
set_option linter.unusedSectionVars false
open Go.RowKit
variable [Glob]
section
variable {P : Program} {w0 w : World} {G : Gh} {F : Nat → Option Blk} {S : St}

theorem flat_len {s : Nat} : ∀ (xs : List AV), (∀ x ∈ xs, x.cells.length = s) → (flat xs).length = xs.length * s
  | [], _ => by simp [flat]
  | x :: xs, h => by
    have ih := flat_len xs (fun y hy => h y (by simp [hy]))
    unfold flat at ih ⊢
    simp only [List.flatMap_cons, List.length_append, ih, h x (by simp), List.length_cons]
    rw [Nat.add_mul]; omega

theorem flat_at {s : Nat} : ∀ (xs : List AV), (∀ x ∈ xs, x.cells.length = s) → ∀ i (hi : i < xs.length) j, j < s → (flat xs)[i * s + j]? = (xs[i]).cells[j]?
  | [], _, _, hi, _, _ => by simp at hi
  | x :: xs, h, i, hi, j, hj => by
    have hx := h x (by simp)
    cases i with
    | zero =>
      simp only [Nat.zero_mul, Nat.zero_add, flat, List.flatMap_cons, List.getElem_cons_zero]
      rw [List.getElem?_append_left (by omega)]
    | succ i =>
      simp only [flat, List.flatMap_cons, List.getElem_cons_succ]
      rw [List.getElem?_append_right (by rw [hx, Nat.add_mul]; omega), hx]
      have := flat_at xs (fun y hy => h y (by simp [hy])) i (by simpa using hi) j hj
      rw [← this, flat]
      congr 1
      rw [Nat.add_mul]; omega

theorem flat_take {s : Nat} (xs : List AV) (h : ∀ x ∈ xs, x.cells.length = s) (k : Nat) : flat (xs.take k) = (flat xs).take (k * s) := by
  induction xs generalizing k with
  | nil => simp [flat]
  | cons x xs ih =>
    cases k with
    | zero => simp [flat]
    | succ k =>
      have hx := h x (by simp)
      have := ih (fun y hy => h y (by simp [hy])) k
      unfold flat at this ⊢
      simp only [List.take_succ_cons, List.flatMap_cons, this]
      rw [List.take_append, hx, List.take_of_length_le (l := x.cells) (by rw [hx, Nat.add_mul]; omega)]
      congr 2
      rw [Nat.add_mul]; omega
theorem flat_drop {s : Nat} (xs : List AV) (h : ∀ x ∈ xs, x.cells.length = s) (k : Nat) : flat (xs.drop k) = (flat xs).drop (k * s) := by
  induction xs generalizing k with
  | nil => simp [flat]
  | cons x xs ih =>
    cases k with
    | zero => simp [flat]
    | succ k =>
      have hx := h x (by simp)
      have := ih (fun y hy => h y (by simp [hy])) k
      unfold flat at this ⊢
      simp only [List.drop_succ_cons, List.flatMap_cons, this]
      rw [List.drop_append, hx, List.drop_of_length_le (l := x.cells) (by rw [hx, Nat.add_mul]; omega), List.nil_append]
      congr 1
      rw [Nat.add_mul]; omega

/-! ### addresses -/
theorem fieldsA_und {t : TypeId} {i : Nat} {fd : Field} (h : fieldsA P t i = some fd) : ∃ fs, P.underlying t = some (.struct fs) ∧ fs[i]? = some fd := by
  unfold fieldsA at h
  split at h
  · rename_i fs hu; exact ⟨fs, hu, h⟩
  · cases h

theorem sim_fieldAddr {t : TypeId} {x v : AV} {c : Value} {i : Nat} (hx : VR G x c) (h : fieldAddrA P t x i = some v) : ∃ cv, (Instr.fieldAt t c i).run P w = .ok cv w ∧ VR G v cv := by
  unfold fieldAddrA at h
  replace h := Option.bind_eq_some_iff.1 h; obtain ⟨fd, hfd, h⟩ := h
  obtain ⟨fs, hu, hi⟩ := fieldsA_und hfd
  replace h := Option.bind_eq_some_iff.1 h; obtain ⟨s, hs, h⟩ := h
  split at h
  · cases h
  · rename_i hs0
    split at h
    · rename_i n off
      cases h
      cases hx with
      | ptr _ _ b o hio =>
        exact ⟨_, by simp [Instr.fieldAt, run_underlying hu, hi, Instr.sureAddr, fieldPlace, szA_run hs, hs0, add_eq]; rfl, by rw [Nat.add_assoc]; exact VR.ptr _ _ b o hio⟩
    · rename_i cs off
      cases h
      cases hx with
      | cptr _ _ b o val hm hv =>
        exact ⟨_, by simp [Instr.fieldAt, run_underlying hu, hi, Instr.sureAddr, fieldPlace, szA_run hs, hs0, add_eq]; rfl, by rw [Nat.add_assoc]; exact VR.cptr _ _ b o val hm hv⟩
    · cases h

/-- A part of a struct by value. -/
theorem part_val {t : TypeId} {s : Nat} {ag : Bool} (hs : szA P t = some s) (hg : isAggA P t = some ag) {xs : List AV} {cs : Array Value} (hl : xs.length = cs.size)
    (hv : ∀ i (h : i < xs.length), VR G xs[i] (cs.getD i Go.undef)) {off : Nat} {v : AV} (hp : partA ag s xs off = some v) : ∃ c, (part t cs off).run P w = .ok c w ∧ VR G v c := by
  unfold partA at hp
  cases ag with
  | true =>
    simp only [if_true] at hp
    split at hp
    · rename_i hle
      cases hp
      refine ⟨.agg (cs.extract off (off + s)), by simp [part, isAggA_run hg, szA_run hs], .agg _ _ (by simp; omega) (fun i hi => ?_)⟩
      have hi' : i < s := by simp at hi; omega
      have := hv (off + i) (by omega)
      have e1 : off + i < cs.size := by omega
      simp only [Array.getD, e1, dite_true] at this
      have e2 : i < (cs.extract off (off + s)).size := by simp; omega
      simp only [Array.getD, e2, dite_true, List.getElem_take, List.getElem_drop]
      simpa using this
    · cases hp
  | false =>
    simp only [Bool.false_eq_true, if_false] at hp
    obtain ⟨hlt, rfl⟩ := List.getElem?_eq_some_iff.1 hp
    refine ⟨cs.getD off Go.undef, ?_, hv off hlt⟩
    unfold part
    simp only [Sem.run_bind, isAggA_run hg, Result.andThen_ok, Bool.false_eq_true, if_false]
    rw [getD_some (show off < cs.size by omega)]
    rfl

theorem sim_field {t : TypeId} {x v : AV} {c : Value} {i : Nat} (hx : VR G x c) (h : fieldA P t x i = some v) : ∃ cv, (Instr.field t c i).run P w = .ok cv w ∧ VR G v cv := by
  unfold fieldA at h
  replace h := Option.bind_eq_some_iff.1 h; obtain ⟨fd, hfd, h⟩ := h
  obtain ⟨fs, hu, hi⟩ := fieldsA_und hfd
  split at h
  · replace h := Option.bind_eq_some_iff.1 h; obtain ⟨s, hs, h⟩ := h
    replace h := Option.bind_eq_some_iff.1 h; obtain ⟨ag, hg, h⟩ := h
    cases hx with
    | agg xs cs hl hv =>
      obtain ⟨c, h1, h2⟩ := part_val (P := P) (w := w) hs hg hl hv h
      exact ⟨c, by simp [Instr.field, run_underlying hu, hi, asAgg, h1], h2⟩
  · cases h

theorem sim_indexAddr {t : TypeId} {x i v : AV} {c d : Value} (hx : VR G x c) (hi : VR G i d) (h : indexAddrA P t x i = some v) : ∃ cv, (Instr.indexAt t c d).run P w = .ok cv w ∧ VR G v cv := by
  unfold indexAddrA at h
  split at h
  · rename_i e k i hu
    cases hi
    replace h := Option.bind_eq_some_iff.1 h; obtain ⟨s, hs, h⟩ := h
    split at h
    · rename_i xs tp
      split at h
      · rename_i hr
        split at h
        · rename_i v' hv'
          split at h
          · rename_i hlen
            cases h
            cases hx with
            | elst => simp at hv'
            | lst _ _ b o cap s' val hc hs' hm hv ht =>
              obtain ⟨hlt, rfl⟩ := List.getElem?_eq_some_iff.1 hv'
              have es : s' = s := by rw [← hs' _ (List.getElem_mem hlt)]; exact hlen
              subst es
              have key : ∀ j, j < xs[i.toNat].cells.length → i.toNat * s' + j < (flat xs).length := by
                intro j hj
                rw [flat_len xs hs']
                have : (i.toNat + 1) * s' ≤ xs.length * s' := Nat.mul_le_mul_right _ (by omega)
                rw [Nat.add_mul] at this
                omega
              refine ⟨_, by simp [Instr.indexAt, asIntOf, run_underlying hu, hr, szA_run hs, add_eq]; rfl, ?_⟩
              refine VR.cptr _ 0 b (o + i.toNat * s') (fun j => val (i.toNat * s' + j)) (fun j hj => ?_) (fun j hj => ?_)
              · rw [Nat.add_assoc]; exact hm _ (key j hj)
              · have := hv _ (key j hj)
                have e2 := flat_at xs hs' i.toNat hlt j (by omega)
                rw [List.getElem?_eq_getElem (key j hj), List.getElem?_eq_getElem hj] at e2
                rw [Option.some.inj e2] at this
                exact this
          · cases h
        · cases h
      · cases h
    · rename_i n off len s'
      split at h
      · rename_i hr
        obtain ⟨rfl, hr⟩ := hr
        cases h
        cases hx with
        | hnd _ _ _ _ b o cap m hio hc hz hm =>
          refine ⟨_, by simp [Instr.indexAt, asIntOf, run_underlying hu, hr, szA_run hs, add_eq]; rfl, ?_⟩
          have := VR.ptr n (off + i.toNat * s') b o hio
          rwa [← Nat.add_assoc] at this
      · cases h
    · cases h
  · rename_i len e k i hu
    cases hi
    replace h := Option.bind_eq_some_iff.1 h; obtain ⟨s, hs, h⟩ := h
    split at h
    · rename_i n off
      split at h
      · rename_i hr
        cases h
        cases hx with
        | ptr _ _ b o hio =>
          refine ⟨_, by simp [Instr.indexAt, asIntOf, run_underlying hu, hr, szA_run hs, add_eq, Instr.sureAddr]; rfl, ?_⟩
          have := VR.ptr n (off + i.toNat * s) b o hio
          rwa [← Nat.add_assoc] at this
      · cases h
    · rename_i cs off
      split at h
      · rename_i hr
        cases h
        cases hx with
        | cptr _ _ b o val hm hv =>
          refine ⟨_, by simp [Instr.indexAt, asIntOf, run_underlying hu, hr, szA_run hs, add_eq, Instr.sureAddr]; rfl, ?_⟩
          have := VR.cptr cs (off + i.toNat * s) b o val hm hv
          rwa [← Nat.add_assoc] at this
      · cases h
    · cases h
  · cases h

theorem sim_index {t : TypeId} {x i v : AV} {c d : Value} (hx : VR G x c) (hi : VR G i d) (h : indexA P t x i = some v) : ∃ cv, (Instr.index t c d).run P w = .ok cv w ∧ VR G v cv := by
  unfold indexA at h
  split at h
  · rename_i s k i hu
    cases hi
    cases hx
    split at h
    · rename_i h0
      obtain ⟨b, hb, rfl⟩ := Option.map_eq_some_iff.1 h
      refine ⟨.int .u8 b.toNat, ?_, .int _ _⟩
      have : (⟨s.toArray⟩ : ByteArray)[i.toNat]? = some b := by
        obtain ⟨hlt, he⟩ := List.getElem?_eq_some_iff.1 hb
        rw [getElem?_pos (⟨s.toArray⟩ : ByteArray) i.toNat hlt, ← he]; rfl
      simp [Instr.index, asIntOf, run_underlying hu, h0, this]
    · cases h
  · rename_i len e cs k i hu
    cases hi
    replace h := Option.bind_eq_some_iff.1 h; obtain ⟨s, hs, h⟩ := h
    replace h := Option.bind_eq_some_iff.1 h; obtain ⟨ag, hg, h⟩ := h
    split at h
    · rename_i hr
      cases hx with
      | agg xs cs hl hv =>
        obtain ⟨c, h1, h2⟩ := part_val (P := P) (w := w) hs hg hl hv h
        exact ⟨c, by simp [Instr.index, asIntOf, run_underlying hu, hr, szA_run hs, h1], h2⟩
    · cases h
  · cases h

theorem sim_extract {x v : AV} {c : Value} {i : Nat} (hx : VR G x c) {vs : List AV} (e : x = .tuple vs) (h : vs[i]? = some v) : ∃ cv, (Instr.extract c i).run P w = .ok cv w ∧ VR G v cv := by
  subst e
  obtain ⟨hlt, rfl⟩ := List.getElem?_eq_some_iff.1 h
  cases hx with
  | tuple xs cs hl hv => exact ⟨cs.getD i Go.undef, by simp only [Instr.extract]; rw [getD_some (show i < cs.size by omega)]; rfl, hv i hlt⟩

/-! ### bounds and cuts -/
theorem boundA_run {d top : Nat} {x : Option AV} {c : Option Value} {r : Nat} (hx : match x, c with | none, none => True | some v, some u => VR G v u | _, _ => False) (h : boundA d top x = some r) (code : BoundsCode) :
    (match c with | some u => Instr.sliceBound u top code | none => pure d).run P w = .ok r w := by
  unfold boundA at h
  split at h
  · cases h
    cases c with
    | none => rfl
    | some u => exact hx.elim
  · rename_i k i
    split at h
    · rename_i hr
      cases h
      cases c with
      | none => exact hx.elim
      | some u =>
        cases hx
        simp [Instr.sliceBound, asIntOf, hr]
    · cases h
  · cases h
theorem boundA_le {d top : Nat} {x : Option AV} {r : Nat} (h : boundA d top x = some r) (hd : d ≤ top) : r ≤ top := by
  unfold boundA at h
  split at h
  · cases h; exact hd
  · split at h
    · cases h; omega
    · cases h
  · cases h
end
end Go.Proofs.Ytfphpjinimfhfaa.VM
/-! Cuts, comparisons, arithmetic, conversions. -/
namespace Go.Proofs.Ytfphpjinimfhfaa.VM
set_option linter.unusedSectionVars false
set_option linter.unusedSimpArgs false
set_option linter.unusedVariables false
open Go.RowKit
variable [Glob]
section
variable {P : Program} {w0 w : World} {G : Gh} {F : Nat → Option Blk} {S : St}

def OR (G : Gh) : Option AV → Option Value → Prop
  | none, none => True
  | some v, some u => VR G v u
  | _, _ => False

theorem getB {d top r : Nat} {x : Option AV} {c : Option Value} (hx : OR G x c) (h : boundA d top x = some r) :
    (x = none ∧ c = none ∧ r = d) ∨ (∃ k i, x = some (.int k i) ∧ c = some (.int k i) ∧ 0 ≤ i ∧ i ≤ (top : Int) ∧ r = i.toNat) := by
  unfold boundA at h
  split at h
  · cases h
    cases c with
    | none => exact .inl ⟨rfl, rfl, rfl⟩
    | some u => exact hx.elim
  · rename_i k i
    split at h
    · rename_i hr
      cases h
      cases c with
      | none => exact hx.elim
      | some u =>
        cases hx
        exact .inr ⟨k, i, rfl, rfl, hr.1, hr.2, rfl⟩
    · cases h
  · cases h

theorem sliceAt_of {t : TypeId} {d : TypeDesc} (hu : P.underlying t = some d) (hd : ∀ n e, d ≠ .array n e) (c : Value) (lo hi mx : Option Value) : (Instr.sliceAt t c lo hi mx).run P w = (Instr.slice t c lo hi mx).run P w := by
  unfold Instr.sliceAt
  simp only [Sem.run_bind, run_underlying hu, Result.andThen_ok]

theorem boundA_top {d d' top top' r : Nat} {x : Option AV} (h : boundA d top x = some r) (ht : top ≤ top') (hd : x = none → d' = r := by intro h; simp_all [boundA]) : boundA d' top' x = some r := by
  unfold boundA at h ⊢
  split
  · rw [hd rfl]
  · rename_i k i
    simp only at h
    split at h
    · rename_i hr; rw [if_pos ⟨hr.1, by omega⟩]; exact h
    · cases h
  · simp at h

/-- The cut, by the numbers. -/
theorem slice_run {t e : TypeId} {s : Nat} (hu : P.underlying t = some (.slice e)) (hs : szA P e = some s) (a : Option Addr) (len cap : Nat) (hc : len ≤ cap) {lo hi mx : Option AV} {clo chi cmx : Option Value}
    (hlo : OR G lo clo) (hhi : OR G hi chi) (hmx : OR G mx cmx) (l h m : Nat) (h1 : boundA cap cap mx = some m) (h2 : boundA len m hi = some h) (h3 : boundA 0 h lo = some l) (hne : mx.isSome = true → hi.isNone = false) :
    (Instr.sliceAt t (.slice a len cap) clo chi cmx).run P w = .ok (.slice (if m = l then a else a.map (·.add (l * s))) (h - l) (m - l)) w := by
  rw [sliceAt_of hu (by simp)]
  have hb : (Instr.sliceBounds true len cap clo chi cmx).run P w = .ok (l, h, m) w := by
    rcases getB hmx h1 with ⟨rfl, rfl, rfl⟩ | ⟨km, im, rfl, rfl, m0, m1, rfl⟩ <;> rcases getB hhi h2 with ⟨rfl, rfl, rfl⟩ | ⟨k, i, rfl, rfl, i0, i1, rfl⟩ <;> rcases getB hlo h3 with ⟨rfl, rfl, rfl⟩ | ⟨k', j, rfl, rfl, j0, j1, rfl⟩ <;> simp at hne <;> simp only [Instr.sliceBounds, Instr.sliceBound, asIntOf, Sem.run_bind, Sem.run_pure, Result.andThen_ok, pure_bind, Sem.run_ite, *, and_self, if_true]
  simp only [Instr.slice, Sem.run_bind, run_underlying hu, Result.andThen_ok, hb, szA_run hs, Sem.run_pure]

theorem extract_str (s : List UInt8) (l h : Nat) (hl : h ≤ s.length) : (⟨s.toArray⟩ : ByteArray).extract l h = ⟨((s.take h).drop l).toArray⟩ := by
  apply ByteArray.ext
  simp [ByteArray.data_extract, List.drop_take]

theorem sim_slice {t : TypeId} {x v : AV} {c : Value} {lo hi mx : Option AV} {clo chi cmx : Option Value} (hx : VR G x c) (hlo : OR G lo clo) (hhi : OR G hi chi) (hmx : OR G mx cmx)
    (h : sliceA P t x lo hi mx = some v) : ∃ cv, (Instr.sliceAt t c clo chi cmx).run P w = .ok cv w ∧ VR G v cv := by
  unfold sliceA at h
  split at h
  · -- a string
    rename_i s hu
    cases hx
    split at h
    · cases h
    · rename_i hmn
      obtain rfl : mx = none := by cases mx with | none => rfl | some m => simp at hmn
      obtain rfl : cmx = none := by cases cmx with | none => rfl | some m => exact hmx.elim
      obtain ⟨hh, h1, h⟩ := Option.bind_eq_some_iff.1 h
      obtain ⟨l, h2, h⟩ := Option.bind_eq_some_iff.1 h
      cases h
      rw [sliceAt_of hu (by simp)]
      have hle : hh ≤ s.length := boundA_le h1 (Nat.le_refl _)
      refine ⟨.string ⟨((s.take hh).drop l).toArray⟩, ?_, .str _⟩
      have hsz : (⟨s.toArray⟩ : ByteArray).size = s.length := by simp [ByteArray.size]
      rcases getB hhi h1 with ⟨rfl, rfl, rfl⟩ | ⟨k, i, rfl, rfl, i0, i1, rfl⟩ <;> rcases getB hlo h2 with ⟨rfl, rfl, rfl⟩ | ⟨k', j, rfl, rfl, j0, j1, rfl⟩
      · simp [Instr.slice, run_underlying hu, Instr.sliceBounds, hsz, extract_str]
      · have jr : 0 ≤ j ∧ j ≤ (s.length : Int) := ⟨j0, j1⟩
        simp [Instr.slice, run_underlying hu, Instr.sliceBounds, Instr.sliceBound, asIntOf, hsz, jr, extract_str]
      · have ir : 0 ≤ i ∧ i ≤ (s.length : Int) := ⟨i0, i1⟩
        have : i.toNat ≤ s.length := by omega
        simp [Instr.slice, run_underlying hu, Instr.sliceBounds, Instr.sliceBound, asIntOf, hsz, ir, extract_str, this]
      · have ir : 0 ≤ i ∧ i ≤ (s.length : Int) := ⟨i0, i1⟩
        have jr : 0 ≤ j ∧ j ≤ (i.toNat : Int) := ⟨j0, j1⟩
        have : i.toNat ≤ s.length := by omega
        simp only [Instr.slice, Sem.run_bind, run_underlying hu, Result.andThen_ok, Instr.sliceBounds, Instr.sliceBound, asIntOf, hsz, Sem.run_pure, ir, jr, and_self, if_true, Option.isSome_none, Bool.false_eq_true, if_false]
        rw [extract_str _ _ _ this]
  · -- nil
    rename_i e hu
    cases hx
    replace h := Option.bind_eq_some_iff.1 h; obtain ⟨s, hs, h⟩ := h
    split at h
    · cases h
    · rename_i hne
      replace h := Option.bind_eq_some_iff.1 h; obtain ⟨m, h1, h⟩ := h
      replace h := Option.bind_eq_some_iff.1 h; obtain ⟨hh, h2, h⟩ := h
      replace h := Option.bind_eq_some_iff.1 h; obtain ⟨l, h3, h⟩ := h
      cases h
      have hm0 : m = 0 := by have := boundA_le h1 (Nat.le_refl _); omega
      subst hm0
      have hh0 : hh = 0 := by have := boundA_le h2 (by omega); omega
      subst hh0
      have hl0 : l = 0 := by have := boundA_le h3 (by omega); omega
      subst hl0
      refine ⟨.slice none 0 0, ?_, .nils⟩
      rw [slice_run hu hs none 0 0 (Nat.le_refl _) hlo hhi hmx 0 0 0 h1 h2 h3 (fun hm => by cases hi with | none => exact absurd ⟨hm, rfl⟩ hne | some v => rfl)]
      rfl
  · -- a list
    rename_i e xs tp hu
    replace h := Option.bind_eq_some_iff.1 h; obtain ⟨s, hs, h⟩ := h
    split at h
    case isFalse => cases h
    rename_i hhead
    cases hx with
    | elst _ a cap ht =>
      split at h
      · replace h := Option.bind_eq_some_iff.1 h; obtain ⟨hh, h2, h⟩ := h
        replace h := Option.bind_eq_some_iff.1 h; obtain ⟨l, h3, h⟩ := h
        cases h
        have hle2 : hh ≤ 0 := boundA_le h2 (Nat.le_refl _)
        have hle3 := boundA_le h3 (Nat.zero_le _)
        obtain rfl : hh = 0 := by omega
        obtain rfl : l = 0 := by omega
        refine ⟨_, slice_run hu hs (some a) 0 cap (Nat.zero_le _) hlo hhi hmx 0 0 cap (by simp [boundA]) (boundA_top h2 (Nat.zero_le _)) h3 (by simp), ?_⟩
        have haddr : (if cap = 0 then some a else (some a).map (·.add (0 * s))) = some a := by split <;> simp [Addr.add]
        rw [haddr]
        refine VR.elst _ a cap ?_
        rcases ht with rfl | ⟨rfl, e⟩
        · exact .inl rfl
        · exact .inr ⟨rfl, e⟩
      · rename_i mm
        split at h
        · cases h
        · rename_i hhn
          replace h := Option.bind_eq_some_iff.1 h; obtain ⟨m, h1, h⟩ := h
          replace h := Option.bind_eq_some_iff.1 h; obtain ⟨hh, h2, h⟩ := h
          replace h := Option.bind_eq_some_iff.1 h; obtain ⟨l, h3, h⟩ := h
          cases h
          have hle1 : m ≤ 0 := boundA_le h1 (Nat.zero_le _)
          have hle2 := boundA_le h2 (Nat.zero_le _)
          have hle3 := boundA_le h3 (Nat.zero_le _)
          obtain rfl : m = 0 := by omega
          obtain rfl : hh = 0 := by omega
          obtain rfl : l = 0 := by omega
          obtain ⟨hi', rfl⟩ : ∃ v, hi = some v := by cases hi with | none => simp at hhn | some v => exact ⟨v, rfl⟩
          refine ⟨_, slice_run hu hs (some a) 0 cap (Nat.zero_le _) hlo hhi hmx 0 0 0 (boundA_top h1 (Nat.zero_le _)) (boundA_top h2 (Nat.le_refl _)) h3 (by simp), ?_⟩
          exact VR.elst _ a 0 (.inr ⟨rfl, rfl⟩)
    | lst _ _ b o cap s' val hc hs' hm hv ht =>
      have hss : ∀ l h, (if l ≤ h then h else l) ≤ xs.length → l ≠ 0 → s' = s := by
        intro l h hle hl
        cases xs with
        | nil => simp at hle; split at hle <;> omega
        | cons x xs => simp [headOk] at hhead; rw [← hhead]; exact (hs' x (by simp)).symm
      -- what a cut of the list is, in memory
      have cut : ∀ (l hh cap' : Nat) (tp' : Tip) (o' : Nat), l ≤ hh → hh ≤ xs.length → hh - l ≤ cap' → (l < hh → o' = o + l * s) → TipR G b (o' + (flat ((xs.take hh).drop l)).length) o' cap' (hh - l) s' tp' →
          VR G (.lst ((xs.take hh).drop l) tp') (.slice (some ⟨b, o', none⟩) (hh - l) cap') := by
        intro l hh cap' tp' o' hlh hhx hcap ho ht'
        have hlen : ((xs.take hh).drop l).length = hh - l := by simp; omega
        have hsub : ∀ x ∈ (xs.take hh).drop l, x.cells.length = s' := fun x hx => hs' x (List.mem_of_mem_take (List.mem_of_mem_drop hx))
        have hflat : flat ((xs.take hh).drop l) = ((flat xs).take (hh * s')).drop (l * s') := by
          rw [flat_drop _ (fun x hx => hs' x (List.mem_of_mem_take hx)), flat_take _ hs']
        have key : ∀ i, i < (flat ((xs.take hh).drop l)).length → o' + i = o + (l * s' + i) ∧ ∃ h1 : l * s' + i < (flat xs).length, ∀ h2 : i < (flat ((xs.take hh).drop l)).length, (flat ((xs.take hh).drop l))[i]'h2 = (flat xs)[l * s' + i]'h1 := by
          intro i hi
          have hi' := hi
          rw [flat_len _ hsub, hlen] at hi'
          have hlt : l < hh := by
            rcases Nat.lt_or_ge l hh with h | h
            · exact h
            · rw [Nat.sub_eq_zero_of_le h, Nat.zero_mul] at hi'; omega
          have hfl := flat_len xs hs'
          have h1 : l * s' + i < (flat xs).length := by
            rw [hfl]
            have : hh * s' ≤ xs.length * s' := Nat.mul_le_mul_right _ hhx
            have e : (hh - l) * s' + l * s' = hh * s' := by rw [← Nat.add_mul]; congr 1; omega
            omega
          refine ⟨?_, h1, fun h2 => ?_⟩
          · rw [ho hlt]
            by_cases hl0 : l = 0
            · subst hl0; omega
            · rw [hss l hh (by rw [if_pos hlh]; exact hhx) hl0]; omega
          · have e2 : (flat ((xs.take hh).drop l))[i]? = (flat xs)[l * s' + i]? := by
              have e : (hh - l) * s' + l * s' = hh * s' := by rw [← Nat.add_mul]; congr 1; omega
              rw [hflat, List.getElem?_drop, List.getElem?_take, if_pos (by omega)]
            rw [List.getElem?_eq_getElem h2, List.getElem?_eq_getElem h1] at e2
            exact Option.some.inj e2
        have := VR.lst (G := G) ((xs.take hh).drop l) tp' b o' cap' s' (fun i => val (l * s' + i)) (by rw [hlen]; exact hcap) hsub
          (fun i hi => by obtain ⟨e1, h1, _⟩ := key i hi; rw [e1]; exact hm _ h1)
          (fun i hi => by obtain ⟨_, h1, e2⟩ := key i hi; rw [e2 hi]; exact hv _ h1) (by rw [hlen]; exact ht')
        rwa [hlen] at this
      split at h
      · -- two places
        replace h := Option.bind_eq_some_iff.1 h; obtain ⟨hh, h2, h⟩ := h
        replace h := Option.bind_eq_some_iff.1 h; obtain ⟨l, h3, h⟩ := h
        cases h
        have hle2 := boundA_le h2 (Nat.le_refl _)
        have hle3 := boundA_le h3 (Nat.zero_le _)
        refine ⟨_, slice_run hu hs (some ⟨b, o, none⟩) xs.length cap hc hlo hhi hmx l hh cap (by simp [boundA]) (boundA_top h2 hc) h3 (by simp), ?_⟩
        have haddr : (if cap = l then some (⟨b, o, none⟩ : Addr) else (some (⟨b, o, none⟩ : Addr)).map (·.add (l * s))) = some ⟨b, (if cap = l then o else o + l * s), none⟩ := by
          split <;> simp [add_eq]
        rw [haddr]
        refine cut l hh (cap - l) _ (if cap = l then o else o + l * s) hle3 hle2 (by omega) (fun hlt => by rw [if_neg (by omega)]) ?_
        by_cases hfull : hh = xs.length
        · rw [if_pos hfull]
          cases tp with
          | lost => exact trivial
          | full => show cap - l = hh - l; have : cap = xs.length := ht; omega
          | tag n =>
            show TipR G b _ _ (cap - l) (hh - l) s' (if l < hh then Tip.tag n else Tip.lost)
            by_cases hlt : l < hh
            · rw [if_pos hlt]
              obtain ⟨t1, t2, m, t3, t4⟩ := ht
              have hne : ¬ cap = l := by omega
              rw [if_neg hne]
              have hflen := flat_len xs hs'
              have hflen2 : (flat ((xs.take hh).drop l)).length = (hh - l) * s' := by
                rw [flat_len _ (fun x hx => hs' x (List.mem_of_mem_take (List.mem_of_mem_drop hx)))]
                congr 1; simp; omega
              have hs2 : l * s = l * s' := by
                by_cases hl0 : l = 0
                · subst hl0; simp
                · rw [hss l hh (by rw [if_pos hle3]; exact hle2) hl0]
              have e : (hh - l) * s' + l * s' = hh * s' := by rw [← Nat.add_mul]; congr 1; omega
              refine ⟨?_, by omega, m, t3, ?_⟩
              · rw [t1, hflen, hflen2, hs2]
                have : xs.length * s' = hh * s' := by rw [hfull]
                congr 2; omega
              · have e3 : (cap - l) * s' + l * s' = cap * s' := by rw [← Nat.add_mul]; congr 1; omega
                omega
            · rw [if_neg hlt]; exact trivial
        · rw [if_neg hfull]; exact trivial
      · -- three
        rename_i mm
        split at h
        · cases h
        · rename_i hhn
          replace h := Option.bind_eq_some_iff.1 h; obtain ⟨m, h1, h⟩ := h
          replace h := Option.bind_eq_some_iff.1 h; obtain ⟨hh, h2, h⟩ := h
          replace h := Option.bind_eq_some_iff.1 h; obtain ⟨l, h3, h⟩ := h
          cases h
          have hle1 := boundA_le h1 (Nat.zero_le _)
          have hle2 := boundA_le h2 (Nat.zero_le _)
          have hle3 := boundA_le h3 (Nat.zero_le _)
          obtain ⟨hi', rfl⟩ : ∃ v, hi = some v := by cases hi with | none => simp at hhn | some v => exact ⟨v, rfl⟩
          refine ⟨_, slice_run hu hs (some ⟨b, o, none⟩) xs.length cap hc hlo hhi hmx l hh m (boundA_top h1 hc) (boundA_top h2 (Nat.le_refl _)) h3 (by simp), ?_⟩
          have haddr : (if m = l then some (⟨b, o, none⟩ : Addr) else (some (⟨b, o, none⟩ : Addr)).map (·.add (l * s))) = some ⟨b, (if m = l then o else o + l * s), none⟩ := by
            split <;> simp [add_eq]
          rw [haddr]
          refine cut l hh (m - l) _ (if m = l then o else o + l * s) hle3 (by omega) (by omega) (fun hlt => by rw [if_neg (by omega)]) ?_
          by_cases e : hh = m
          · rw [if_pos e]; show m - l = hh - l; rw [e]
          · rw [if_neg e]; exact trivial
  · -- a written array
    rename_i e n off len s' hu
    split at h
    · cases h
    · rename_i hmn
      replace h := Option.bind_eq_some_iff.1 h; obtain ⟨s, hs, h⟩ := h
      replace h := Option.bind_eq_some_iff.1 h; obtain ⟨m0, h1, h⟩ := h
      replace h := Option.bind_eq_some_iff.1 h; obtain ⟨hh, h2, h⟩ := h
      replace h := Option.bind_eq_some_iff.1 h; obtain ⟨l, h3, h⟩ := h
      split at h
      case isFalse => cases h
      rename_i es
      subst es
      have hle1 : m0 ≤ len := boundA_le h1 (Nat.le_refl _)
      have hle2 : hh ≤ m0 := by
        by_cases hi0 : hi = none
        · subst hi0
          cases mx with
          | none => simp [boundA] at h1 h2; omega
          | some v => simp at hmn
        · unfold boundA at h2
          split at h2
          · exact absurd rfl hi0
          · split at h2
            · cases h2; omega
            · cases h2
          · cases h2
      have hle3 := boundA_le h3 (Nat.zero_le _)
      cases hx with
      | hnd _ _ _ _ b o cap m hio hc hz hm =>
        obtain ⟨mr, h1', hm1, hm2, hmr⟩ : ∃ mr, boundA cap cap mx = some mr ∧ m0 ≤ mr ∧ mr ≤ cap ∧ (mx.isSome = true → mr = m0) := by
          cases mx with
          | none => exact ⟨cap, rfl, by omega, Nat.le_refl _, fun e => by cases e⟩
          | some v => exact ⟨m0, boundA_top h1 hc (fun e => by cases e), Nat.le_refl _, by omega, fun _ => rfl⟩
        refine ⟨_, slice_run hu hs (some ⟨b, o + off, none⟩) len cap hc hlo hhi hmx l hh mr h1' (boundA_top h2 hm1) h3 (fun e => by cases hi with | none => exact absurd ⟨e, rfl⟩ hmn | some v => rfl), ?_⟩
        split at h
        · rename_i hmx2
          cases h
          obtain rfl : mr = l := (hmr hmx2.1).trans hmx2.2
          have e1 : hh - mr = 0 := by have := hmx2.2; omega
          rw [e1, if_pos rfl, Nat.sub_self]
          exact VR.elst _ _ 0 (.inr ⟨rfl, rfl⟩)
        split at h
        · rename_i hor
          cases h
          have haddr : (if mr = l then some (⟨b, o + off, none⟩ : Addr) else (some (⟨b, o + off, none⟩ : Addr)).map (·.add (l * s'))) = some ⟨b, o + (off + l * s'), none⟩ := by
            split
            · rename_i e
              have : l = 0 := by omega
              subst this; simp
            · simp [add_eq, Nat.add_assoc]
          rw [haddr]
          refine VR.hnd n (off + l * s') (hh - l) s' b o (mr - l) m hio (by omega) hz ?_
          have e3 : (mr - l) * s' + l * s' = mr * s' := by rw [← Nat.add_mul]; congr 1; omega
          have e4 : mr * s' ≤ cap * s' := Nat.mul_le_mul_right _ hm2
          omega
        · rename_i hor
          cases h
          have e1 : hh - l = 0 := by omega
          rw [e1]
          have haddr : ∃ oo, (if mr = l then some (⟨b, o + off, none⟩ : Addr) else (some (⟨b, o + off, none⟩ : Addr)).map (·.add (l * s'))) = some ⟨b, oo, none⟩ := by
            split <;> exact ⟨_, by simp [add_eq]; rfl⟩
          obtain ⟨oo, haddr⟩ := haddr
          rw [haddr]
          exact VR.lst [] .lost b oo (mr - l) 0 (fun _ => Go.undef) (by simp) (fun x hx => by cases hx) (fun i hi => by simp [flat] at hi) (fun i hi => by simp [flat] at hi) trivial
  · cases h
end
end Go.Proofs.Ytfphpjinimfhfaa.VM
