import Derived.Test.YtfphpjinimfhfaaVMWp
import Derived.ChangeArms
import Derived.Deep.Slices
import Derived.Carry
import Derived.ChangeOld
import Derived.OpenShut
import Derived.ProofKit
import Derived.ShutString
/-! From the machine of values to a row: what is read of an argument is a value of the machine; a call that answers in the machine answers in the model. -/
namespace Go.Proofs.Ytfphpjinimfhfaa.VM
set_option linter.unusedSimpArgs false
set_option linter.unusedVariables false
set_option linter.unusedSectionVars false
open Go.RowKit Go.ChangeShapes Go.WideShapes Go.ChangeAt
variable [Glob]

/-- What is known of a world in which nothing has a name yet: every cell, as it stands. -/
def gh0 (W : World) : Gh := ⟨fun b o => W.cell? ⟨b, o, none⟩, fun _ => none, fun _ => none⟩
def st0 : St := ⟨0, fun _ => none⟩

theorem sr0 {W : World} (hok : Glob.okw W) : SR W (gh0 W) (ov st0.mem fun _ => none) W :=
  ⟨.refl _ _, fun _ _ _ h => h, fun _ _ h => (by cases h), fun _ _ h => (by cases h), fun _ _ _ _ _ _ _ _ h => (by cases h), hok⟩

/-- A call that answers true in the machine answers true in the model, and turns nothing that was there. -/
theorem calls_of {P : Program} {C : Cfg} (hm : P.follows .mixedOrders = true) (hintr : IntrOK P C) {f : FuncId} {fn : Func} {c : Code} {args : List AV} (W : World) (cargs : Array Value)
    (hf : P.funcs[f]? = some fn) (hb : fn.body = some c) (hn : fn.name ≠ "runtime.NumGoroutine") (hgl : ∀ k, VR (gh0 W) (Glob.gl k) (.pointer (some ⟨k, 0, none⟩))) (hok : Glob.okw W) (hv : VRs (gh0 W) args cargs.toList)
    (hq : CallQ P C f args st0 fun v _ => v = .bool true) (hhook : HookS P C := by intro _ _ h; cases (show none = some _ from h)) : Calls P f cargs W fun e W' => e = .returned (.bool true) ∧ Below W.heap.size W W' := by
  unfold CallQ at hq
  obtain ⟨v, S', ⟨k, hk⟩, rfl⟩ := hq
  have := sound hm hintr k hhook f args st0 _ S' hk W (gh0 W) (fun _ => none) W cargs hgl hv (sr0 hok) (fun n _ => rfl) (fun n blk h => by cases h) (fun n _ _ => rfl)
  rcases this with ⟨_, h⟩ | ⟨c', w', h, _⟩
  · refine h.mono fun e W' ⟨G', _, hs, _, c', he, hc⟩ => ?_
    cases hc
    exact ⟨he, hs.below⟩
  · rw [enter_run hf hb hn] at h
    cases h

/-! ### Reading -/
/-- An element out of its cells. -/
def mkElt (ag : Bool) (cs : List AV) : AV := match ag, cs with
  | false, [v] => v
  | _, cs => .agg cs

/-- What a reading says of the cells that are read; 'b' is the reading's bulk. -/
def Typed (P : Program) : Nat → TypeId → List AV → Nat → Prop
  | 0, _, _, _ => False
  | n + 1, t, as, b => match P.underlying t with
    | some (.int k) => ∃ i, as = [.int k i] ∧ (Lit.int k i).wf = true
    | some .bool => ∃ c, as = [.bool c]
    | some .string => ∃ s : List UInt8, as = [.str s] ∧ s.length ≤ reachBytes ∧ s.length < b
    | some (.slice e) => P.cellsOf e = 0 ∨ as = [.nils] ∨ ∃ ys : List (List AV × Nat), as = [.lst (ys.map fun y => mkElt (isAggA P e == some true) y.1) .lost] ∧ ys.length ≤ maxLen ∧ ys.length * P.bytesOf e ≤ reachBytes ∧ (ys.map (·.2)).sum < b ∧
        ∀ y ∈ ys, y.1.length = P.cellsOf e ∧ Typed P n e y.1 y.2
    | some (.struct fs) => P.types.size ≤ t ∨ ∃ bs : List Nat, bs.length = fs.size ∧ bs.sum < b ∧ ∀ (i : Nat) (f : Field), fs[i]? = some f → Typed P n f.type ((as.drop f.offset).take (P.cellsOf f.type)) (bs.getD i 0)
    | _ => True

/-- Fields lie one behind the other. -/
def contig (P : Program) : List Field → Nat → Nat → Bool
  | [], off, tot => off == tot
  | f :: fs, off, tot => f.offset == off && contig P fs (off + P.cellsOf f.type) tot
def allContig (P : Program) : Bool := (List.range P.types.size).all fun t => match P.underlying t with | some (.struct fs) => contig P fs.toList 0 (P.cellsOf t) | _ => true
theorem allContig_at {P : Program} (h : allContig P = true) {t : TypeId} {fs : Array Field} (hlt : t < P.types.size) (hu : P.underlying t = some (.struct fs)) : contig P fs.toList 0 (P.cellsOf t) = true := by
  have := List.all_eq_true.1 h t (List.mem_range.2 hlt)
  rw [hu] at this
  exact this
theorem contig_ge {P : Program} : ∀ {fs : List Field} {off tot : Nat}, contig P fs off tot = true → off ≤ tot ∧ ∀ f ∈ fs, off ≤ f.offset
  | [], off, tot, h => by simp [contig] at h; exact ⟨by omega, fun f hf => (List.not_mem_nil hf).elim⟩
  | g :: fs, off, tot, h => by
    simp [contig] at h
    obtain ⟨h1, h2⟩ := contig_ge h.2
    refine ⟨by omega, fun f hf => ?_⟩
    rcases List.mem_cons.1 hf with rfl | hf
    · omega
    · have := h2 f hf; omega

/-- A weight of data. -/
structure Bulk {H : Type} (bk : DataW H → Nat) : Prop where
  str : ∀ bs, bs.length < bk (.lit (.string bs))
  slice : ∀ es sp, (es.map bk).sum < bk (.slice es sp)
  agg : ∀ ps, (ps.map bk).sum < bk (.agg ps)

/-- A weight, where none is asked. -/
theorem sum_sizeOf {H : Type} : ∀ l : List (DataW H), (l.map SizeOf.sizeOf).sum ≤ SizeOf.sizeOf l
  | [] => by simp
  | x :: l => by
    have := sum_sizeOf l
    simp only [List.map_cons, List.sum_cons, List.cons.sizeOf_spec]
    omega
theorem bulk0 {H : Type} : Bulk (SizeOf.sizeOf : DataW H → Nat) := by
  refine ⟨fun bs => ?_, fun es sp => ?_, fun ps => ?_⟩
  · have : bs.length ≤ SizeOf.sizeOf bs := by
      induction bs with
      | nil => simp
      | cons b bs ih => simp only [List.length_cons, List.cons.sizeOf_spec]; omega
    simp only [DataW.lit.sizeOf_spec, Lit.string.sizeOf_spec]
    omega
  · have := sum_sizeOf es
    simp only [DataW.slice.sizeOf_spec]
    omega
  · have := sum_sizeOf ps
    simp only [DataW.agg.sizeOf_spec]
    omega
theorem VRs.take {G : Gh} {xs : List AV} {cs : List Value} (h : VRs G xs cs) (n : Nat) : VRs G (xs.take n) (cs.take n) := by
  induction h generalizing n with
  | nil => simp; exact .nil
  | cons h t ih => cases n with
    | zero => exact .nil
    | succ n => exact .cons h (ih n)

theorem spot_none {w : World} {a : Addr} {v : Value} (h : w.cell? a = some v) : a.spot = none := by
  unfold World.cell? at h
  split at h
  · split at h
    · cases h
    · rename_i hs; simpa using hs
  · cases h

theorem wf_plain {v : AV} (h : v.plain = true) : v.cells = [v] := by cases v <;> first | rfl | (simp [AV.plain] at h)
theorem mkElt_cells {ag : Bool} {cs : List AV} (h : ∀ a ∈ cs, a.plain = true) : (mkElt ag cs).cells = cs := by
  unfold mkElt
  split
  · exact wf_plain (h _ (by simp))
  · rfl

theorem mem_weightsEach {H : Type} {P : Program} : ∀ {ts : List TypeId} {ds : List (DataW H)} {i : Nat} {t : TypeId} {d : DataW H} {k : Nat}, ts[i]? = some t → ds[i]? = some d → k ∈ d.weights P t → k ∈ DataW.weightsEach P ts ds
  | [], _, i, t, d, k, h1, h2, h => by simp at h1
  | _ :: _, [], i, t, d, k, h1, h2, h => by simp at h2
  | u :: ts, x :: ds, i, t, d, k, h1, h2, h => by
    rw [DataW.weightsEach]
    cases i with
    | zero =>
      obtain rfl : u = t := by simpa using h1
      obtain rfl : x = d := by simpa using h2
      exact List.mem_append_left _ h
    | succ i => exact List.mem_append_right _ (mem_weightsEach (by simpa using h1) (by simpa using h2) h)
theorem mem_weightsAll {H : Type} {P : Program} {e : TypeId} {d : DataW H} {k : Nat} (h : k ∈ d.weights P e) : ∀ {l : List (DataW H)}, d ∈ l → k ∈ DataW.weightsAll P e l
  | x :: l, hd => by
    rw [DataW.weightsAll]
    rcases List.mem_cons.1 hd with rfl | hd
    · exact List.mem_append_left _ h
    · exact List.mem_append_right _ (mem_weightsAll h hd)
/-- Nothing in it weighs too much. -/
def Light {H : Type} (P : Program) (t : TypeId) (d : DataW H) : Prop := ∀ k ∈ d.weights P t, k ≤ reachBytes
theorem light_of {H : Type} {P : Program} {ts : List TypeId} {ds : List (DataW H)} (h : (DataW.weightsEach P ts ds).all (· ≤ reachBytes) = true) (i : Nat) {t : TypeId} {d : DataW H} (h1 : ts[i]? = some t) (h2 : ds[i]? = some d) : Light P t d :=
  fun k hk => by simpa using List.all_eq_true.1 h k (mem_weightsEach h1 h2 hk)

section
variable {H : Type} {enc : TypeId × Value → H} {P : Program} {w : World} {base : Nat} {sp : Nat → Bool} {held : Bool} {bk : DataW H → Nat}

/-- What is known of what a reading has read. -/
def RdOk (P : Program) (w : World) (n : Nat) (t : TypeId) (cs : List Value) (b : Nat) : Prop :=
  ∃ as : List AV, VRs (gh0 w) as cs ∧ (∀ a ∈ as, a.plain = true) ∧ Typed P n t as b

theorem read_fields {n : Nat} (ih : ∀ (t : TypeId) (cs : List Value) (x : DataW H × List MemPlace), DataW.trod enc P w base sp held n t cs = some x → Light P t x.1 → RdOk P w n t cs (bk x.1)) :
    ∀ (fs : List Field) (off tot : Nat) (cs : List Value) (xs : List (DataW H × List MemPlace)), contig P fs off tot = true → cs.length = tot - off → xs.length = fs.length →
      (∀ (i : Nat) (f : Field), fs[i]? = some f → DataW.trod enc P w base sp held n f.type ((cs.drop (f.offset - off)).take (P.cellsOf f.type)) = xs[i]?) →
      (∀ (i : Nat) (f : Field) (x : DataW H × List MemPlace), fs[i]? = some f → xs[i]? = some x → Light P f.type x.1) →
      ∃ (as : List AV) (bs : List Nat), VRs (gh0 w) as cs ∧ (∀ a ∈ as, a.plain = true) ∧ bs.length = fs.length ∧ bs = xs.map (fun x => bk x.1) ∧
        ∀ (i : Nat) (f : Field), fs[i]? = some f → Typed P n f.type ((as.drop (f.offset - off)).take (P.cellsOf f.type)) (bs.getD i 0)
  | [], off, tot, cs, xs, hc, hl, hx, h, hL => by
    simp [contig] at hc
    have : cs = [] := List.length_eq_zero_iff.1 (by omega)
    subst this
    have : xs = [] := List.length_eq_zero_iff.1 (by simpa using hx)
    subst this
    exact ⟨[], [], .nil, fun _ h => (List.not_mem_nil h).elim, rfl, rfl, fun i f hf => by simp at hf⟩
  | g :: fs, off, tot, cs, [], hc, hl, hx, h, hL => by simp at hx
  | g :: fs, off, tot, cs, x :: xs, hc, hl, hx, h, hL => by
    simp [contig] at hc
    obtain ⟨h1, h2⟩ := hc
    obtain ⟨h3, h4⟩ := contig_ge h2
    have h0 := h 0 g rfl
    rw [h1, Nat.sub_self, List.drop_zero] at h0
    obtain ⟨as1, k1, k2, k3⟩ := ih _ _ x (by simpa using h0) (hL 0 g x rfl rfl)
    obtain ⟨as2, bs2, m1, m2, m3, m4, m5⟩ := read_fields ih fs (off + P.cellsOf g.type) tot (cs.drop (P.cellsOf g.type)) xs h2 (by rw [List.length_drop]; omega) (by simpa using hx) (by
      intro i f hf
      have h5 := h (i + 1) f (by simpa using hf)
      have h6 := h4 f (List.mem_of_getElem? hf)
      rw [List.drop_drop, show P.cellsOf g.type + (f.offset - (off + P.cellsOf g.type)) = f.offset - off by omega]
      simpa using h5) (fun i f y h1 h2 => hL (i + 1) f y (by simpa using h1) (by simpa using h2))
    have hlen : as1.length = P.cellsOf g.type := by rw [k1.len, List.length_take]; omega
    refine ⟨as1 ++ as2, bk x.1 :: bs2, ?_, ?_, by simp [m3], by simp [m4], ?_⟩
    · have := k1.append m1
      rwa [List.take_append_drop] at this
    · intro a ha
      rcases List.mem_append.1 ha with ha | ha
      · exact k2 a ha
      · exact m2 a ha
    · intro i f hf
      cases i with
      | zero =>
        obtain rfl : g = f := by simpa using hf
        rw [h1, Nat.sub_self, List.drop_zero, ← hlen, List.take_left]
        exact k3
      | succ i =>
        have hf : fs[i]? = some f := by simpa using hf
        have h6 := h4 f (List.mem_of_getElem? hf)
        have := m5 i f hf
        have e : (as1 ++ as2).drop (f.offset - off) = as2.drop (f.offset - (off + P.cellsOf g.type)) := by
          rw [List.drop_append, List.drop_eq_nil_of_le (by omega), hlen, List.nil_append]
          congr 1; omega
        rw [e]
        simpa using this

/-- EVERY READING IS ONE OF VALUES OF THE MACHINE. -/
theorem read (hC : allContig P = true) (hB : Bulk bk) : ∀ (n : Nat) (t : TypeId) (cs : List Value) (x : DataW H × List MemPlace), DataW.trod enc P w base sp held n t cs = some x → Light P t x.1 → RdOk P w n t cs (bk x.1)
  | 0, t, cs, x, h, hL => by simp [DataW.trod] at h
  | n + 1, t, cs, x, h, hL => by
    have rest : (∀ as b, Typed P (n + 1) t as b) → RdOk P w (n + 1) t cs (bk x.1) := fun hT =>
      ⟨cs.map fun _ => .undef, VRs.of_at (by simp) (fun i hi => by simp only [List.getElem_map]; exact .undef _), fun a ha => by obtain ⟨_, _, rfl⟩ := List.mem_map.1 ha; rfl, hT _ _⟩
    unfold RdOk
    match hu : P.underlying t with
    | some (.int k) =>
      obtain ⟨i, rfl, rfl, hw⟩ := DataW.trod_int hu h
      exact ⟨[.int k i], .cons (.int k i) .nil, by simp [AV.plain], by unfold Typed; rw [hu]; exact ⟨i, rfl, hw⟩⟩
    | some .bool =>
      obtain ⟨i, rfl, rfl⟩ := DataW.trod_bool hu h
      exact ⟨[.bool i], .cons (.bool i) .nil, by simp [AV.plain], by unfold Typed; rw [hu]; exact ⟨i, rfl⟩⟩
    | some .string =>
      obtain ⟨s, rfl, rfl, hw⟩ := DataW.trod_string hu h
      refine ⟨[.str s.data.toList], .cons ?_ .nil, by simp [AV.plain], by unfold Typed; rw [hu]; exact ⟨_, rfl, hL _ (by simp [DataW.weights]), by simpa using hB.str s.data.toList⟩⟩
      exact .str s.data.toList
    | some (.struct fs) =>
      by_cases hlt : P.types.size ≤ t
      · exact rest fun as b => by unfold Typed; rw [hu]; exact .inl hlt
      obtain ⟨xs, m, e, rfl, hl, hxl, hf⟩ := DataW.trod_struct hu h
      cases e
      obtain ⟨as, bs, k1, k2, k3, k4, k5⟩ := read_fields (bk := bk) (fun t cs x h hL => read hC hB n t cs x h hL) fs.toList 0 (P.cellsOf t) cs xs (allContig_at hC (Nat.lt_of_not_le hlt) hu) (by omega) (by simpa using hxl) (fun i f hi => by
        rw [Nat.sub_zero]; exact hf i f (by simpa using hi)) (fun i f y h1 h2 k hk => hL k (by
          simp only [DataW.weights, hu]
          exact mem_weightsEach (i := i) (by rw [List.getElem?_map, h1]; rfl) (by rw [List.getElem?_map, h2]; rfl) hk))
      refine ⟨as, k1, k2, ?_⟩
      unfold Typed
      rw [hu]
      refine .inr ⟨bs, by simpa using k3, ?_, fun i f hi => by have := k5 i f (by simpa using hi); rwa [Nat.sub_zero] at this⟩
      have := hB.agg (xs.map (·.1))
      rw [k4]
      simpa [List.map_map, Function.comp_def] using this
    | some (.slice e) =>
      by_cases hz : P.cellsOf e = 0
      · exact rest fun as b => by unfold Typed; rw [hu]; exact .inl hz
      rcases DataW.trod_slice hu h with ⟨rfl, rfl⟩ | ⟨a, len, cap, elems, spare, m, e0, rfl, rfl, hb, hl, hm, hlen, hel, _, _⟩
      · exact ⟨[.nils], .cons .nils .nil, by simp [AV.plain], by unfold Typed; rw [hu]; exact .inr (.inl rfl)⟩
      cases e0
      have each : ∀ i, i < len → ∃ q : List AV × List Value × (DataW H × List MemPlace), elems[i]? = some q.2.2 ∧ w.cells? base (a.add (i * P.cellsOf e)) (P.cellsOf e) = some q.2.1 ∧ VRs (gh0 w) q.1 q.2.1 ∧ (∀ a ∈ q.1, a.plain = true) ∧ Typed P n e q.1 (bk q.2.2.1) := by
        intro i hi
        have h1 := hel i hi
        rw [List.getElem?_eq_getElem (by omega)] at h1
        obtain ⟨cs', h2, h3⟩ := Option.bind_eq_some_iff.1 h1
        obtain ⟨as, k1, k2, k3⟩ := read hC hB n e cs' _ h3 (fun k hk => hL k (by
          simp only [DataW.weights, hu]
          exact List.mem_cons_of_mem _ (List.mem_append_left _ (mem_weightsAll hk (List.mem_map.2 ⟨elems[i], List.getElem_mem _, rfl⟩)))))
        exact ⟨(as, cs', elems[i]), List.getElem?_eq_getElem (by omega), h2, k1, k2, k3⟩
      have : Inhabited (List AV × List Value × (DataW H × List MemPlace)) := ⟨([], [], (.nil, []))⟩
      obtain ⟨q, hq⟩ := Go.Deep.choose_lt each
      have hel2 : elems = (List.range len).map fun i => (q i).2.2 := by
        refine List.ext_getElem? fun i => ?_
        rcases Nat.lt_or_ge i len with h1 | h1
        · rw [(hq i h1).1]; simp [h1]
        · rw [List.getElem?_eq_none (by omega), List.getElem?_eq_none (by simpa using h1)]
      have hw0 : ∀ i, i < len → (mkElt (isAggA P e == some true) (q i).1).cells = (q i).1 := fun i hi => mkElt_cells (hq i hi).2.2.2.1
      have hql : ∀ i, i < len → (q i).1.length = P.cellsOf e := fun i hi => by
        rw [(hq i hi).2.2.1.len]; exact (World.cells?_some (hq i hi).2.1).2.1
      have htyped : Typed P (n + 1) t [.lst (((List.range len).map fun i => ((q i).1, bk (q i).2.2.1)).map fun y => mkElt (isAggA P e == some true) y.1) .lost] (bk (.slice (elems.map (·.1)) (spare.map (·.1)))) := by
        unfold Typed
        rw [hu]
        refine .inr (.inr ⟨_, rfl, by simp; omega, ?_, ?_, ?_⟩)
        · have h1 : (elems.map (·.1)).length * P.bytesOf e + (spare.map (·.1)).length * P.bytesOf e ≤ reachBytes := by
            have := hL (((elems.map (·.1)).length + (spare.map (·.1)).length) * P.bytesOf e) (by simp only [DataW.weights, hu]; exact List.mem_cons_self)
            rwa [Nat.add_mul] at this
          have h2 : (elems.map (·.1)).length = len := by simpa using hlen
          rw [h2] at h1
          simp only [List.length_map, List.length_range]
          omega
        · have := hB.slice (elems.map (·.1)) (spare.map (·.1))
          rw [hel2] at this ⊢
          simpa [List.map_map, Function.comp_def] using this
        · intro y hy
          obtain ⟨i, hi, rfl⟩ := List.mem_map.1 hy
          have hi := List.mem_range.1 hi
          exact ⟨hql i hi, (hq i hi).2.2.2.2⟩
      refine ⟨_, .cons ?_ .nil, by simp [AV.plain], htyped⟩
      by_cases h0 : len = 0
      · subst h0
        exact .elst .lost a cap (.inl rfl)
      -- the address has no spot
      have hcell : ∀ i, i < len → ∀ j, j < P.cellsOf e → w.cell? ((a.add (i * P.cellsOf e)).add j) = (q i).2.1[j]? := fun i hi j hj => (World.cells?_some (hq i hi).2.1).2.2 j hj
      have hspot : a.spot = none := by
        have h1 := hcell 0 (by omega) 0 (by omega)
        have h2 := (World.cells?_some (hq 0 (by omega)).2.1).2.1
        rw [List.getElem?_eq_getElem (by omega)] at h1
        have := spot_none h1
        simpa [Addr.add] using this
      obtain ⟨b, o, s⟩ := a
      obtain rfl : s = none := hspot
      rw [List.map_map]
      have hlx : ((List.range len).map ((fun y => mkElt (isAggA P e == some true) y.1) ∘ fun i => ((q i).1, bk (q i).2.2.1))).length = len := by simp
      have hxs : ∀ x ∈ (List.range len).map ((fun y => mkElt (isAggA P e == some true) y.1) ∘ fun i => ((q i).1, bk (q i).2.2.1)), x.cells.length = P.cellsOf e := by
        intro x hx
        obtain ⟨i, hi, rfl⟩ := List.mem_map.1 hx
        have hi := List.mem_range.1 hi
        show (mkElt _ (q i).1).cells.length = _
        rw [hw0 i hi, hql i hi]
      have key : ∀ k (hk : k < (flat ((List.range len).map ((fun y => mkElt (isAggA P e == some true) y.1) ∘ fun i => ((q i).1, bk (q i).2.2.1)))).length),
          ∃ v, w.cell? ⟨b, o + k, none⟩ = some v ∧ VR (gh0 w) (flat ((List.range len).map ((fun y => mkElt (isAggA P e == some true) y.1) ∘ fun i => ((q i).1, bk (q i).2.2.1))))[k] v := by
        intro k hk
        have hk2 : k < len * P.cellsOf e := by rw [flat_len _ hxs, hlx] at hk; exact hk
        have hd : k / P.cellsOf e < len := Nat.div_lt_of_lt_mul (by rw [Nat.mul_comm]; exact hk2)
        have hr : k % P.cellsOf e < P.cellsOf e := Nat.mod_lt _ (by omega)
        have hdm : k / P.cellsOf e * P.cellsOf e + k % P.cellsOf e = k := by rw [Nat.mul_comm]; exact Nat.div_add_mod k _
        have e1 := flat_at _ hxs (k / P.cellsOf e) (by rw [hlx]; exact hd) (k % P.cellsOf e) hr
        rw [hdm, List.getElem?_eq_getElem hk] at e1
        simp only [List.getElem_map, List.getElem_range, Function.comp] at e1
        rw [hw0 _ hd] at e1
        have hlt : k % P.cellsOf e < (q (k / P.cellsOf e)).1.length := by rw [hql _ hd]; exact hr
        rw [List.getElem?_eq_getElem hlt] at e1
        have e2 := (hq _ hd).2.2.1.at_ _ hlt
        have e3 := hcell _ hd _ hr
        rw [add_eq, add_eq, Nat.add_assoc, hdm] at e3
        have hl2 := (hq _ hd).2.2.1.len
        rw [List.getElem?_eq_getElem (by omega)] at e3
        refine ⟨_, e3, ?_⟩
        have e4 := Option.some.inj e1
        have : VR (gh0 w) (q (k / P.cellsOf e)).1[k % P.cellsOf e] ((q (k / P.cellsOf e)).2.1[k % P.cellsOf e]'(by omega)) := by
          simpa [List.getD, List.getElem?_eq_getElem (show k % P.cellsOf e < (q (k / P.cellsOf e)).2.1.length by omega)] using e2
        rw [e4]; exact this
      have := VR.lst (G := gh0 w) ((List.range len).map ((fun y => mkElt (isAggA P e == some true) y.1) ∘ fun i => ((q i).1, bk (q i).2.2.1))) .lost b o cap (P.cellsOf e) (fun k => (w.cell? ⟨b, o + k, none⟩).getD Go.undef) (by rw [hlx]; exact hl) hxs
        (fun k hk => by
          obtain ⟨v, h1, h2⟩ := key k hk
          show w.cell? _ = _
          rw [h1]; rfl)
        (fun k hk => by
          obtain ⟨v, h1, h2⟩ := key k hk
          rw [h1]; exact h2) trivial
      rw [hlx] at this
      exact this
    | none => exact rest fun as b => by unfold Typed; rw [hu]; trivial
    | some (.array _ _) | some (.pointer _) | some (.map _ _) | some (.chan _ _) | some (.func _ _ _) | some (.interface _) | some (.float _) | some (.complex _) | some .unsafePointer | some (.tuple _) | some .invalid | some (.named _ _) => exact rest fun as b => by unfold Typed; rw [hu]; trivial

/-! ### An argument, by its type -/
theorem arg_slice (hC : allContig P = true) (hB : Bulk bk) {r : Reach} {b0 : Nat} {t e : TypeId} {v : Value} {d : DataW H} {ps : List MemPlace} (hu : P.underlying t = some (.slice e)) (hv : Value.okWide P w r b0 t v) (h : DataW.Trod enc P w base sp held t v d ps) (hL : Light P t d) :
    ∃ (n : Nat) (a : AV), Typed P n t [a] (bk d) ∧ VR (gh0 w) a v := by
  obtain ⟨x, len, cap, rfl⟩ := okWide_slice hu hv
  obtain ⟨fuel, hf⟩ := h
  obtain ⟨av, h1, _, h2⟩ := read hC hB fuel t _ _ hf hL
  have h1 : VRs (gh0 w) av [.slice x len cap] := h1
  match av, h1 with
  | [a], .cons h3 .nil => exact ⟨fuel, a, h2, h3⟩
theorem arg_int {r : Reach} {b0 : Nat} {t : TypeId} {k : IntKind} {v : Value} {d : DataW H} {ps : List MemPlace} (hu : P.underlying t = some (.int k)) (hv : Value.okWide P w r b0 t v) (h : DataW.Trod enc P w base sp held t v d ps) :
    ∃ i, (Lit.int k i).wf = true ∧ VR (gh0 w) (.int k i) v := by
  obtain ⟨n, rfl, _, _, hw⟩ := open_int hu hv h
  exact ⟨n, hw, .int k n⟩
theorem arg_bool {r : Reach} {b0 : Nat} {t : TypeId} {v : Value} {d : DataW H} {ps : List MemPlace} (hu : P.underlying t = some .bool) (hv : Value.okWide P w r b0 t v) (h : DataW.Trod enc P w base sp held t v d ps) :
    ∃ i, VR (gh0 w) (.bool i) v := by
  obtain ⟨n, rfl, _, _⟩ := open_bool hu hv h
  exact ⟨n, .bool n⟩
theorem arg_string (hB : Bulk bk) {r : Reach} {b0 : Nat} {t : TypeId} {v : Value} {d : DataW H} {ps : List MemPlace} (hu : P.underlying t = some .string) (hv : Value.okWide P w r b0 t v) (h : DataW.Trod enc P w base sp held t v d ps) (hL : Light P t d) :
    ∃ s : List UInt8, s.length ≤ reachBytes ∧ s.length < bk d ∧ VR (gh0 w) (.str s) v := by
  obtain ⟨fuel, hf⟩ := h
  obtain ⟨s, e, _⟩ : ∃ s, v = .string s ∧ True := by
    unfold Value.okWide at hv
    rw [hu] at hv
    simp only [Cell.okWide, hu] at hv
    cases v <;> first | exact ⟨_, rfl, trivial⟩ | (simp [Cell.ok, hu] at hv)
  subst e
  obtain ⟨s', e, h2, h3⟩ := DataW.trod_string hu hf
  simp only [Value.cells] at e
  obtain rfl : s = s' := by simpa using e
  simp only [Prod.mk.injEq] at h2
  exact ⟨s.data.toList, hL _ (by rw [h2.1]; simp [DataW.weights]), by rw [h2.1]; exact hB.str _, .str s.data.toList⟩
theorem arg_struct (hC : allContig P = true) (hB : Bulk bk) {r : Reach} {b0 : Nat} {t : TypeId} {fs : Array Field} {v : Value} {d : DataW H} {ps : List MemPlace} (hu : P.underlying t = some (.struct fs)) (hv : Value.okWide P w r b0 t v) (h : DataW.Trod enc P w base sp held t v d ps) (hL : Light P t d) :
    ∃ (n : Nat) (av : List AV), av.length = P.cellsOf t ∧ Typed P n t av (bk d) ∧ VR (gh0 w) (.agg av) v := by
  obtain ⟨cs, rfl, hl⟩ : ∃ cs, v = .agg cs ∧ cs.size = P.cellsOf t := by
    unfold Value.okWide at hv
    rw [hu] at hv
    obtain ⟨cs, h1, h2, _⟩ := hv
    exact ⟨cs, h1, h2⟩
  obtain ⟨fuel, hf⟩ := h
  obtain ⟨av, h1, _, h2⟩ := read hC hB fuel t _ _ hf hL
  have h1 : VRs (gh0 w) av cs.toList := h1
  have hlen : av.length = cs.size := by simpa using h1.len
  refine ⟨fuel, av, by omega, h2, .agg av cs hlen fun i hi => ?_⟩
  have := h1.at_ i hi
  rw [arr_getD]
  simpa [List.getD] using this
end
end Go.Proofs.Ytfphpjinimfhfaa.VM
