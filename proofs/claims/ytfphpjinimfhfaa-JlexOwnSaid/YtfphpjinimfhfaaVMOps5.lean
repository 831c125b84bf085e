import Derived.Test.YtfphpjinimfhfaaVMOps4
import Derived.Lib.ConvBytes
import Derived.Laws.BytesString
import Derived.Great.BuildSlice
import Derived.Laws.MakeOwn
/-! Operations that make blocks; conversions; literals. -/
namespace Go.Proofs.Ytfphpjinimfhfaa.VM
set_option linter.unusedSectionVars false
set_option linter.unusedSimpArgs false
set_option linter.unusedVariables false
open Go.RowKit
variable [Glob]
section
variable {P : Program} {w0 w : World} {G : Gh} {F : Nat → Option Blk} {S S' : St}

def GoodV (w0 : World) (F : Nat → Option Blk) (G : Gh) (S S' : St) (v : AV) (r : Result Value) : Prop :=
  ∃ c w' G', r = .ok c w' ∧ VR G' v c ∧ GE G G' S.next S'.next ∧ SR w0 G' (ov S'.mem F) w' ∧ Grow S S'

theorem GoodV.quiet (h : SR w0 G (ov S.mem F) w) (hwf : Wf S) {v : AV} {c : Value} {r : Result Value} (hr : r = .ok c w) (hv : VR G v c) : GoodV w0 F G S S v r :=
  ⟨c, w, G, hr, hv, GE.refl _ _ _, h, Grow.refl hwf⟩

theorem und_run {t : TypeId} {d : TypeDesc} (h : P.underlying t = some d) (w : World) : (underlying t).run P w = .ok d w := run_underlying h w

theorem bytesOfA_ints : ∀ {xs : List AV} {bs : List UInt8}, bytesOfA xs = some bs → ∃ ns : List Int, xs = ns.map (AV.int .u8) ∧ bs = ns.map fun n => UInt8.ofNat n.toNat
  | [], bs, h => by cases h; exact ⟨[], rfl, rfl⟩
  | x :: xs, bs, h => by
    unfold bytesOfA at h
    split at h
    · rename_i e; cases e
    · rename_i n l e
      cases e
      obtain ⟨r, hr, rfl⟩ := Option.map_eq_some_iff.1 h
      obtain ⟨ns, rfl, rfl⟩ := bytesOfA_ints hr
      exact ⟨n :: ns, rfl, rfl⟩
    · cases h

theorem foldl_push (ns : List Int) (b : ByteArray) : ns.foldl (fun r n => r.push (UInt8.ofNat n.toNat)) b = ⟨(b.data.toList ++ ns.map fun n => UInt8.ofNat n.toNat).toArray⟩ := by
  induction ns generalizing b with
  | nil => simp
  | cons n ns ih => rw [List.foldl_cons, ih]; simp [ByteArray.data_push]

theorem bytes_string_run {src dst e : TypeId} (hs : P.underlying src = some (.slice e)) (he : P.underlying e = some (.int .u8)) (hd : P.underlying dst = some .string) (b o cap : Nat) (xs : List AV) (val : Nat → Value)
    (hm : ∀ i, i < xs.length → w.cell? ⟨b, o + i, none⟩ = some (val i)) (hv : ∀ i (h : i < xs.length), VR G xs[i] (val i)) {bs : List UInt8} (hb : bytesOfA xs = some bs) :
    (convert src dst (.slice (some ⟨b, o, none⟩) xs.length cap)).run P w = .ok (.string ⟨bs.toArray⟩) w := by
  obtain ⟨ns, rfl, rfl⟩ := bytesOfA_ints hb
  rw [run_convert_bytes_string w src dst e _ _ _ hs he hd]
  have hl : (loadCells ⟨b, o, none⟩ (ns.map (AV.int .u8)).length).run P w = .ok (ns.map (Value.int .u8)).toArray w := by
    rw [List.length_map, ← List.length_map (f := Value.int .u8)]
    refine run_loadCells_list (P := P) w ⟨b, o, none⟩ _ (fun j v hj => ?_)
    rw [add_eq]
    obtain ⟨hlt, rfl⟩ := List.getElem?_eq_some_iff.1 hj
    have hlt' : j < (ns.map (AV.int .u8)).length := by simpa using hlt
    have h2 := hv j hlt'
    rw [hm j hlt']
    simp only [List.getElem_map] at h2 ⊢
    generalize val j = u at h2
    cases h2
    rfl
  rw [run_bytesToString w _ _ _ ns hl, foldl_push]
  rfl

theorem flat_leaf : ∀ (xs : List AV), (∀ x ∈ xs, x.cells = [x]) → flat xs = xs
  | [], _ => rfl
  | x :: xs, h => by
    have := flat_leaf xs (fun y hy => h y (by simp [hy]))
    unfold flat at this ⊢
    simp [List.flatMap_cons, h x (by simp), this]

theorem sim_convert (h : SR w0 G (ov S.mem F) w) (hwf : Wf S) {src dst : TypeId} {x v : AV} {c : Value} (hx : VR G x c) (hc : convertA P S src dst x = some v) : GoodV w0 F G S S v ((convert src dst c).run P w) := by
  unfold convertA at hc
  split at hc
  · rename_i k0 k j n hs hd
    cases hx; cases hc
    exact .quiet h hwf (by simp only [convert, Sem.run_bind, und_run hs, und_run hd, Result.andThen_ok, Conv.intToInt, Sem.run_pure]) (.int _ _)
  · rename_i k0 j n hs hd
    cases hx; cases hc
    exact .quiet h hwf (by simp only [convert, Sem.run_bind, und_run hs, und_run hd, Result.andThen_ok, Conv.intToString, Sem.run_pure]) (.str _)
  · rename_i s hs hd
    cases hx; cases hc
    exact .quiet h hwf (by simp only [convert, Sem.run_bind, und_run hs, und_run hd, Result.andThen_ok, Sem.run_pure]) (.str _)
  · rename_i e s hs hd
    cases hx
    split at hc
    · rename_i he
      cases hc
      have hr := Lib.run_convert_string_bytes (P := P) w src dst e ⟨s.toArray⟩ hs hd he
      have on : One w (.cells (Lib.bytesCells w e ⟨s.toArray⟩) e ((Lib.bytesCells w e ⟨s.toArray⟩).size, (Lib.bytesCells w e ⟨s.toArray⟩).size + 1)) (Lib.bytesWorld w e ⟨s.toArray⟩) :=
        ⟨rfl, rfl, rfl, Lib.bytesWorld_size w e _, fun k hk => Lib.bytesWorld_at_old w e _ k hk, Lib.bytesWorld_at_new w e _⟩
      have hcell : ∀ j, j < s.length → (Lib.bytesCells w e ⟨s.toArray⟩)[j]? = some (.int .u8 (s.getD j 0).toNat) := by
        intro j hj
        have := Lib.bytesWorld_cell w e ⟨s.toArray⟩ j (by rw [size_mk]; exact hj)
        rw [cell_of on.new] at this
        simpa using this
      have h1 := h.one on none (fun m hm => by cases hm) (fun off => if off < s.length then some (.int .u8 (s.getD off 0).toNat) else none) (fun off v hv => by
        split at hv
        · rename_i ho; cases hv; exact ⟨_, _, _, rfl, hcell off ho⟩
        · cases hv)
      refine ⟨_, _, _, hr, ?_, Gh.ext_ge h _ _ _ _, h1, Grow.refl hwf⟩
      have hlen : (flat (s.map fun c => AV.int .u8 c.toNat)).length = s.length := by
        rw [flat_len (s := 1) _ (fun x hx => by obtain ⟨c, _, rfl⟩ := List.mem_map.1 hx; rfl)]; simp
      have hfl : flat (s.map fun c => AV.int .u8 c.toNat) = s.map fun c => AV.int .u8 c.toNat := by
        exact flat_leaf _ (fun x hx => by obtain ⟨c, _, rfl⟩ := List.mem_map.1 hx; rfl)
      have := VR.lst (G := G.ext w.heap.size (fun off => if off < s.length then some (.int .u8 (s.getD off 0).toNat) else none) none) (s.map fun c => AV.int .u8 c.toNat) .lost w.heap.size 0 (grownCap w (⟨s.toArray⟩ : ByteArray).size 0 e) 1
        (fun i => .int .u8 (s.getD i 0).toNat) (by
          simp only [List.length_map]
          have := grownCap_ge w (⟨s.toArray⟩ : ByteArray).size 0 e
          rw [size_mk] at this ⊢; exact this) (fun x hx => by obtain ⟨c, _, rfl⟩ := List.mem_map.1 hx; rfl)
        (fun i hi => by rw [hlen] at hi; simp [Gh.ext, hi]) (fun i hi => by
          simp only [hfl, List.getElem_map]
          rw [hlen] at hi
          rw [show s.getD i 0 = s[i] by simp [List.getD, hi]]
          exact .int _ _) trivial
      simp only [List.length_map] at this
      rw [size_mk]
      rw [size_mk] at this
      exact this
    · cases hc
  · rename_i x' e hs hd
    split at hc
    · rename_i he
      cases hx; cases hc
      exact .quiet h hwf (by rw [run_convert_bytes_string w src dst e _ _ _ hs he hd]; rfl) (.str [])
    · rename_i xs tp he
      obtain ⟨bs, hb, rfl⟩ := Option.map_eq_some_iff.1 hc
      cases hx with
      | elst _ a cap ht =>
        cases hb
        exact .quiet h hwf (by rw [run_convert_bytes_string w src dst e _ _ _ hs he hd]; rfl) (.str [])
      | lst _ _ b o cap s val hcap hs' hm hv ht =>
        obtain ⟨ns, rfl, rfl⟩ := bytesOfA_ints hb
        have hfl : flat (ns.map (AV.int .u8)) = ns.map (AV.int .u8) := by
          exact flat_leaf _ (fun x hx => by obtain ⟨c, _, rfl⟩ := List.mem_map.1 hx; rfl)
        exact .quiet h hwf (bytes_string_run (P := P) (G := G) hs he hd b o cap _ val (fun i hi => h.imm _ _ _ (hm i (by rw [hfl]; exact hi))) (fun i hi => by
          have := hv i (by rw [hfl]; exact hi)
          simpa [hfl] using this) hb) (.str _)
    · rename_i n off len s' he
      replace hc := Option.bind_eq_some_iff.1 hc; obtain ⟨cs, hcs, hc⟩ := hc
      split at hc
      · rename_i hif
        obtain ⟨rfl, hle⟩ := hif
        obtain ⟨bs, hb, rfl⟩ := Option.map_eq_some_iff.1 hc
        cases hx with
        | hnd _ _ _ _ b o cap m hio hcap hz hm =>
          obtain ⟨_, ccs, ty, hbk, hlen, hv, _⟩ := h.cellsAt hcs hio
          have hl : ((cs.drop off).take len).length = len := by simp; omega
          have := bytes_string_run (P := P) (w := w) (G := G) hs he hd b (o + off) cap ((cs.drop off).take len) (fun i => ccs.getD (o + off + i) Go.undef) (fun i hi => by
            rw [cell_of hbk, getD_some (by omega)]) (fun i hi => by
            have := hv (off + i) (by omega)
            simp only [List.getElem_take, List.getElem_drop, Nat.add_assoc]
            exact this) hb
          rw [hl] at this
          exact .quiet h hwf this (.str _)
      · cases hc
    · cases hc
  · cases hc

/-! ### literals -/
structure Cells (G : Gh) (xs : List AV) (cs : Array Value) : Prop where
  len : xs.length = cs.size
  at_ : ∀ i (h : i < xs.length), VR G xs[i] (cs.getD i Go.undef)

def setsV : Array Value → Nat → List Value → Array Value
  | cs, _, [] => cs
  | cs, o, v :: vs => setsV (cs.setIfInBounds o v) (o + 1) vs
theorem fold_sets (off : Nat) : ∀ (vs : List Value) (k : Nat) (cells : Array Value), (vs.zipIdx k).foldl (fun cs (p : Value × Nat) => cs.setIfInBounds (off + p.2) p.1) cells = setsV cells (off + k) vs
  | [], _, _ => rfl
  | v :: vs, k, cells => by
    simp only [List.zipIdx_cons, List.foldl_cons, setsV]
    rw [fold_sets off vs (k + 1)]
    rfl

theorem Cells.set {xs : List AV} {cs : Array Value} (h : Cells G xs cs) (o : Nat) {v : AV} {c : Value} (hv : VR G v c) : Cells G (xs.set o v) (cs.setIfInBounds o c) := by
  refine ⟨by simpa using h.len, fun i hi => ?_⟩
  have hi' : i < xs.length := by simpa using hi
  have hc : i < cs.size := by rw [← h.len]; exact hi'
  by_cases e : o = i
  · subst e
    simp [Array.getD, hc, hv]
  · rw [List.getElem_set_ne e]
    have := h.at_ i hi'
    simp only [Array.getD, hc, dite_true] at this
    have hc2 : i < (cs.setIfInBounds o c).size := by simpa using hc
    simp only [Array.getD, hc2, dite_true]
    rw [show (cs.setIfInBounds o c).getInternal i hc2 = cs[i] from Array.getElem_setIfInBounds_ne _ e]
    exact this
theorem Cells.sets : ∀ (vs : List AV) (ds : List Value) {xs : List AV} {cs : Array Value} (h : Cells G xs cs) (o : Nat) (hl : vs.length = ds.length) (hv : ∀ i (h : i < vs.length), VR G vs[i] (ds.getD i Go.undef)), Cells G (setsA xs o vs) (setsV cs o ds)
  | [], [], _, _, h, _, _, _ => h
  | v :: vs, d :: ds, _, _, h, o, hl, hv => Cells.sets vs ds (h.set o (hv 0 (by simp))) (o + 1) (by simpa using hl) (fun i hi => hv (i + 1) (by simpa using hi))

theorem Cells.of_cells {v : AV} {c : Value} (h : VR G v c) (hk : v.known = true) : Cells G v.cells c.cells := ⟨(h.cells hk).1, (h.cells hk).2⟩

theorem fillA_run {place : Nat → Option (Nat × Nat)} : ∀ (ps : List (Nat × AV)) (qs : List (Nat × Value)), ps.map (·.1) = qs.map (·.1) → VRs G (ps.map (·.2)) (qs.map (·.2)) → ∀ {xs : List AV} {cs : Array Value}, Cells G xs cs → ∀ {r : List AV}, fillA place xs ps = some r →
    ∃ ds, Instr.fill place cs qs = some ds ∧ Cells G r ds
  | [], [], _, _, _, cs, hc, r, h => by cases h; exact ⟨cs, rfl, hc⟩
  | (i, v) :: ps, (j, c) :: qs, hij, hvs, xs, cs, hc, r, h => by
    simp only [List.map_cons, List.cons.injEq] at hij
    obtain ⟨rfl, hij⟩ := hij
    cases hvs with
    | cons hv hvs =>
      unfold fillA at h
      split at h
      · cases h
      · rename_i off size hp
        split at h
        · rename_i hif
          obtain ⟨hk, hl, hfit⟩ := hif
          have hcc := Cells.of_cells hv hk
          have hb : ¬ (c.cells.size ≠ size || decide (off + c.cells.size > cs.size)) = true := by
            have e1 : v.cells.length = c.cells.size := hcc.len
            have e2 := hc.len
            simp
            omega
          have hset : c.cells.zipIdx.foldl (fun cs (p : Value × Nat) => cs.setIfInBounds (off + p.2) p.1) cs = setsV cs off c.cells.toList := by
            rw [← Array.foldl_toList, Array.toList_zipIdx, fold_sets]
            rfl
          obtain ⟨ds, h1, h2⟩ := fillA_run ps qs hij hvs (Cells.sets v.cells c.cells.toList hc off (by simpa using hcc.len) (fun k hk => by
            have := hcc.at_ k hk
            simpa [List.getD, Array.getD, show k < c.cells.size by rw [← hcc.len]; exact hk] using this)) h
          refine ⟨ds, ?_, h2⟩
          unfold Instr.fill
          simp only [hp]
          rw [if_neg (by simpa using hb)]
          rw [← hset] at h1
          exact h1
        · cases h

theorem mapM_places : ∀ (fs : List Field) (ps : List (Nat × Nat)), (fs.mapM fun f => (szA P f.type).map fun s => (f.offset, s)) = some ps → ∀ w : World, (fs.mapM fun f => do pure (f.offset, ← sizeOf f.type) : Sem (List (Nat × Nat))).run P w = .ok ps w
  | [], ps, h, w => by cases h; simp
  | f :: fs, ps, h, w => by
    simp only [List.mapM_cons] at h
    obtain ⟨p, hp, h⟩ := Option.bind_eq_some_iff.1 h
    obtain ⟨qs, hq, h⟩ := Option.bind_eq_some_iff.1 h
    cases h
    obtain ⟨s, hs, rfl⟩ := Option.map_eq_some_iff.1 hp
    simp only [List.mapM_cons, Sem.run_bind, szA_run hs, Result.andThen_ok, Sem.run_pure, mapM_places fs qs hq w]

theorem Cells.zero {t : TypeId} {z : AV} (hz : zeroA P t = some z) (w : World) : ∃ i c, P.info? t = some i ∧ i.zero = some c ∧ (zeroValue t).run P w = .ok c w ∧ VR G z c ∧ Cells G z.cells c.cells := by
  obtain ⟨i, c, h0, hz', h1, rfl, h2⟩ := zeroA_run hz w
  exact ⟨i, c, h0, hz', h1, VR_ofValue G c, Cells.of_cells (VR_ofValue G c) h2⟩

theorem sim_build {t : TypeId} {ps : List (Nat × AV)} {qs : Array (Nat × Value)} (hi : ps.map (·.1) = qs.toList.map (·.1)) (hv : VRs G (ps.map (·.2)) (qs.toList.map (·.2))) {v : AV} (h : buildA P t ps = some v) :
    ∃ c, (Instr.build t qs).run P w = .ok c w ∧ VR G v c := by
  unfold buildA at h
  split at h
  · rename_i z fields hz hu
    obtain ⟨r, hr, rfl⟩ := Option.map_eq_some_iff.1 h
    obtain ⟨places, hp, hf⟩ := Option.bind_eq_some_iff.1 hr
    obtain ⟨_, c, _, _, hzc, hzv, hcz⟩ := Cells.zero (G := G) hz w
    obtain ⟨ds, h1, h2⟩ := fillA_run (G := G) ps qs.toList hi hv hcz hf
    refine ⟨.agg ds, ?_, .agg _ _ h2.len h2.at_⟩
    have hm : (fields.mapM fun f => do pure (f.offset, ← sizeOf f.type) : Sem (Array (Nat × Nat))).run P w = .ok places.toArray w := by
      rw [Array.mapM_eq_mapM_toList, Sem.run_map, mapM_places _ _ hp w]
      rfl
    simp only [Instr.build, Sem.run_bind, hzc, Result.andThen_ok, und_run hu, hm]
    have : (fun i : Nat => places.toArray[i]?) = fun i : Nat => places[i]? := by funext i; simp
    rw [this, h1]
    rfl
  · rename_i z len e hz hu
    replace h := Option.bind_eq_some_iff.1 h; obtain ⟨s, hs, h⟩ := h
    obtain ⟨r, hf, rfl⟩ := Option.map_eq_some_iff.1 h
    obtain ⟨_, c, _, _, hzc, hzv, hcz⟩ := Cells.zero (G := G) hz w
    obtain ⟨ds, h1, h2⟩ := fillA_run (G := G) ps qs.toList hi hv hcz hf
    refine ⟨.agg ds, ?_, .agg _ _ h2.len h2.at_⟩
    simp only [Instr.build, Sem.run_bind, hzc, Result.andThen_ok, und_run hu, szA_run hs]
    rw [h1]
    rfl
  · cases h

theorem rep_length (z : List AV) : ∀ n, (rep z n).length = n * z.length
  | 0 => by simp [rep]
  | n + 1 => by simp [rep, rep_length z n, Nat.add_mul]; omega
theorem rep_at (z : List AV) : ∀ (n i : Nat) (h : i < n * z.length), (rep z n)[i]? = z[i % z.length]?
  | 0, i, h => by simp at h
  | n + 1, i, h => by
    have hpos : 0 < z.length := by
      rcases Nat.eq_zero_or_pos z.length with e | e
      · rw [e] at h; simp at h
      · exact e
    unfold rep
    rcases Nat.lt_or_ge i z.length with h1 | h1
    · rw [List.getElem?_append_left h1, Nat.mod_eq_of_lt h1]
    · rw [List.getElem?_append_right h1, rep_at z n (i - z.length) (by rw [Nat.add_mul] at h; omega)]
      congr 1
      rw [← Nat.mod_eq_sub_mod h1]

theorem Cells.rep {z : List AV} {zc : Array Value} (h : Cells G z zc) (n : Nat) (hpos : 0 < z.length) : Cells G (rep z n) ((Array.range (n * zc.size)).map (zc[· % zc.size]!)) := by
  refine ⟨by rw [rep_length]; simp [h.len], fun i hi => ?_⟩
  rw [rep_length] at hi
  have e1 := rep_at z n i hi
  rw [List.getElem?_eq_getElem (by rw [rep_length]; exact hi), List.getElem?_eq_getElem (Nat.mod_lt _ hpos)] at e1
  rw [Option.some.inj e1]
  have hlt : i < n * zc.size := by rw [← h.len]; exact hi
  have hm : i % zc.size < zc.size := by rw [← h.len]; exact Nat.mod_lt _ hpos
  have h2 := h.at_ (i % z.length) (Nat.mod_lt _ hpos)
  have e3 : ((Array.range (n * zc.size)).map (zc[· % zc.size]!)).getD i Go.undef = zc.getD (i % z.length) Go.undef := by
    rw [h.len]
    simp [Array.getD, hlt, hm]
  rw [e3]
  exact h2

theorem chunk_cells (ag : Bool) (s : Nat) (hag : ag = false → s = 1) : ∀ (n : Nat) (cs : List AV), n * s ≤ cs.length → (ag = false → ∀ c ∈ cs, c.cells = [c]) → flat (chunk ag s n cs) = cs.take (n * s) ∧ (chunk ag s n cs).length = n ∧ ∀ x ∈ chunk ag s n cs, x.cells.length = s
  | 0, cs, _, _ => by simp [chunk, flat]
  | n + 1, cs, h, hl => by
    have hle : s ≤ cs.length := by rw [Nat.add_mul] at h; omega
    obtain ⟨h1, h2, h3⟩ := chunk_cells ag s hag n (cs.drop s) (by rw [Nat.add_mul] at h; simp; omega) (fun e c hc => hl e c (List.mem_of_mem_drop hc))
    have hhead : (if ag then AV.agg (cs.take s) else cs.headD .undef).cells = cs.take s := by
      cases ag with
      | true => rfl
      | false =>
        obtain rfl := hag rfl
        cases cs with
        | nil => simp at hle
        | cons c cs => simp [hl rfl c (by simp)]
    refine ⟨?_, by simp [chunk, h2], fun x hx => ?_⟩
    · unfold flat at h1 ⊢
      simp only [chunk, List.flatMap_cons, hhead, h1]
      rw [Nat.add_mul, Nat.one_mul, Nat.add_comm (n * s) s, List.take_add]
    · simp only [chunk, List.mem_cons] at hx
      rcases hx with rfl | hx
      · rw [hhead]; simp; omega
      · exact h3 x hx

theorem plain_cells {c : AV} (h : c.plain = true) : c.cells = [c] := by cases c <;> first | rfl | (simp [AV.plain] at h)
theorem chunk_ok {ag : Bool} {s : Nat} {cs : List AV} (hok : chunkOk ag s cs = true) (n : Nat) (ds : List AV) (hd : ∀ c ∈ ds, c ∈ cs) (h : n * s ≤ ds.length) :
    flat (chunk ag s n ds) = ds.take (n * s) ∧ (chunk ag s n ds).length = n ∧ ∀ x ∈ chunk ag s n ds, x.cells.length = s := by
  refine chunk_cells ag s (fun e => ?_) n ds h (fun e c hc => ?_)
  · subst e; simp [chunkOk] at hok; exact hok.1
  · subst e; simp [chunkOk] at hok; exact plain_cells (hok.2 c (hd c hc))

theorem shed_cells (x : AV) : x.shed.cells = x.cells.map AV.shedLeaf := by
  cases x <;> rfl
theorem flat_shed : ∀ (xs : List AV), flat (xs.map AV.shed) = (flat xs).map AV.shedLeaf
  | [] => rfl
  | x :: xs => by
    have := flat_shed xs
    unfold flat at this ⊢
    simp only [List.map_cons, List.flatMap_cons, List.map_append, this, shed_cells]

/-- A new row that is known for good. -/
theorem lst_new (h : SR w0 G (ov S.mem F) w) (hwf : Wf S) {w' : World} {ccs : Array Value} {ty : TypeId} {fr : Nat × Nat} (on : One w (.cells ccs ty fr) w') (xs : List AV) (cap s : Nat) (t : Tip) (ht : t = .lost ∨ (t = .full ∧ cap = xs.length)) (hcap : xs.length ≤ cap)
    (hs : ∀ x ∈ xs, x.cells.length = s) (hl : (flat xs).length ≤ ccs.size) (hv : ∀ i (h : i < (flat xs).length), VR G (flat xs)[i] (ccs.getD i Go.undef)) :
    ∃ G', VR G' (.lst xs t) (.slice (some ⟨w.heap.size, 0, none⟩) xs.length cap) ∧ (∀ lo hi, GE G G' lo hi) ∧ SR w0 G' (ov S.mem F) w' := by
  refine ⟨G.ext w.heap.size (fun off => ccs[off]?) none, ?_, fun lo hi => Gh.ext_ge h _ _ lo hi, h.one on _ (fun m hm => by cases hm) _ (fun off v hv => ⟨_, _, _, rfl, hv⟩)⟩
  refine VR.lst xs t w.heap.size 0 cap s (fun i => ccs.getD i Go.undef) hcap hs (fun i hi => ?_) (fun i hi => (hv i hi).mono (Gh.ext_ge h _ _ 0 0)) ?_
  · show (if w.heap.size = w.heap.size then _ else _) = _
    rw [if_pos rfl, Nat.zero_add, getD_some (by omega)]
  · rcases ht with rfl | ⟨rfl, rfl⟩
    · trivial
    · rfl

theorem fillA_length {place : Nat → Option (Nat × Nat)} : ∀ (ps : List (Nat × AV)) {xs r : List AV}, fillA place xs ps = some r → r.length = xs.length
  | [], _, _, h => by cases h; rfl
  | (i, v) :: ps, xs, r, h => by
    unfold fillA at h
    split at h
    · cases h
    · split at h
      · rw [fillA_length ps h, setsA_length]
      · cases h

theorem sim_buildSlice (C : Cfg) (f : FuncId) (h : SR w0 G (ov S.mem F) w) (hwf : Wf S) {t : TypeId} {len : Nat} {ps : List (Nat × AV)} {qs : Array (Nat × Value)} (hi : ps.map (·.1) = qs.toList.map (·.1)) (hv : VRs G (ps.map (·.2)) (qs.toList.map (·.2)))
    {v : AV} (hb : buildSliceA P C f S t len ps = some (v, S')) (hFO : FO S F S'.next) (hFN : FN G S.next S'.next) : GoodV w0 F G S S' v ((Instr.buildSlice t len qs).run P w) := by
  unfold buildSliceA at hb
  obtain ⟨e, he, hb⟩ := Option.bind_eq_some_iff.1 hb
  obtain ⟨s, hs, hb⟩ := Option.bind_eq_some_iff.1 hb
  obtain ⟨ag, hg, hb⟩ := Option.bind_eq_some_iff.1 hb
  obtain ⟨z, hz, hb⟩ := Option.bind_eq_some_iff.1 hb
  split at hb
  case isFalse => cases hb
  rename_i hif
  obtain ⟨hzl, hspos, hsmall⟩ := hif
  obtain ⟨cs, hf, hb⟩ := Option.bind_eq_some_iff.1 hb
  have hu := elemA_und he
  obtain ⟨i, hinfo, hsize⟩ := szA_info hs
  obtain ⟨i', zc, hinfo', hz', hzc, _, hcz⟩ := Cells.zero (G := G) hz w
  rw [hinfo] at hinfo'; cases hinfo'
  have hzs : zc.cells.size = s := by rw [← hcz.len]; exact hzl
  have hrep : Cells G (rep z.cells len) (if len * s = 0 then #[] else (Array.range (len * s)).map (zc.cells[· % zc.cells.size]!)) := by
    split
    · rename_i e0
      have : len = 0 := by
        rcases Nat.mul_eq_zero.1 e0 with h | h
        · exact h
        · omega
      subst this
      exact ⟨rfl, fun i hi => by simp [rep] at hi⟩
    · have := hcz.rep len (by omega)
      rwa [hzs] at this ⊢
  obtain ⟨ds, hfill, hds⟩ := fillA_run (G := G) ps qs.toList hi hv hrep hf
  have hrun : (Instr.buildSlice t len qs).run P w = .ok (.slice (some ⟨w.heap.size, 0, none⟩) len len) { w with heap := w.heap.push (.cells ds e) } := by
    have h1 : ¬ (len * s > 2 ^ 24) := by omega
    by_cases e0 : len * s = 0
    · rw [if_pos e0] at hfill
      have e1 : len * i.size = 0 := by rw [hsize]; exact e0
      have e2 : Array.range 0 = #[] := rfl
      rw [← hsize] at hfill
      simp [Instr.buildSlice, run_underlying hu, sizeOf, typeInfo, hinfo, e1, e2, hfill, newRow]
    · rw [if_neg e0] at hfill
      have := run_buildSlice (P := P) w t e len qs ds i zc hu hinfo hz' (by rw [hsize]; exact h1) (by rw [hsize]; exact e0) (by rw [hsize]; exact hfill)
      simpa using this
  have on := One.push w (.cells ds e)
  split at hb
  · cases hb
    obtain ⟨G', h1, h2, h3, h4, h5⟩ := new_cells (F := F) h hwf hFO hFN e cs ds (by rw [hds.len]; exact Nat.le_refl _) hds.at_ on
    refine ⟨_, _, G', hrun, ?_, h1, h2, h5⟩
    have hlen : cs.length = len * s := by rw [fillA_length ps hf, rep_length, hzl]
    have := VR.hnd S.next 0 len s w.heap.size 0 len ds.size h3 (Nat.le_refl _) h4 (by rw [← hds.len, hlen]; omega)
    exact this
  · split at hb
    · rename_i hok
      cases hb
      have hlen : cs.length = len * s := by rw [fillA_length ps hf, rep_length, hzl]
      obtain ⟨k1, k2, k3⟩ := chunk_ok hok len cs (fun c hc => hc) (by omega)
      have k4 : flat ((chunk ag s len cs).map AV.shed) = cs.map AV.shedLeaf := by rw [flat_shed, k1, ← hlen, List.take_length]
      obtain ⟨G', g1, g2, g3⟩ := lst_new (F := F) h hwf on ((chunk ag s len cs).map AV.shed) len s .full (.inr ⟨rfl, by simp [k2]⟩) (by simp [k2]) (fun x hx => by
        obtain ⟨y, hy, rfl⟩ := List.mem_map.1 hx
        rw [shed_cells_length]; exact k3 y hy) (by rw [k4]; simp [hds.len]) (fun i hi => by
        simp only [k4, List.getElem_map]
        exact (hds.at_ i (by simpa [k4] using hi)).shedLeaf)
      refine ⟨_, _, G', hrun, ?_, g2 _ _, g3, Grow.refl hwf⟩
      have e2 : ((chunk ag s len cs).map AV.shed).length = len := by simp [k2]
      rw [e2] at g1
      exact g1
    · cases hb

theorem sim_makeSlice (h : SR w0 G (ov S.mem F) w) (hwf : Wf S) {t : TypeId} {x y : AV} {c d : Value} (hx : VR G x c) (hy : VR G y d) {v : AV} (hb : makeSliceA P S t x y = some (v, S')) (hFO : FO S F S'.next) (hFN : FN G S.next S'.next) :
    GoodV w0 F G S S' v ((Instr.makeSlice t c d).run P w) := by
  unfold makeSliceA at hb
  split at hb
  case h_2 => cases hb
  rename_i k l k' cc
  cases hx; cases hy
  obtain ⟨e, he, hb⟩ := Option.bind_eq_some_iff.1 hb
  obtain ⟨s, hs, hb⟩ := Option.bind_eq_some_iff.1 hb
  obtain ⟨by_, hby, hb⟩ := Option.bind_eq_some_iff.1 hb
  obtain ⟨z, hz, hb⟩ := Option.bind_eq_some_iff.1 hb
  split at hb
  case isFalse => cases hb
  rename_i hif
  obtain ⟨hzl, hspos, hl0, hlc, hcb, hc47⟩ := hif
  cases hb
  have hu := elemA_und he
  obtain ⟨i, hinfo, hsize⟩ := szA_info hs
  obtain ⟨i', zc, hinfo', hz', hzc, _, hcz⟩ := Cells.zero (G := G) hz w
  rw [hinfo] at hinfo'; cases hinfo'
  have hby' : i.bytes = by_ := by unfold bytesA at hby; rw [hinfo] at hby; simpa using hby
  have hzs : zc.cells.size = s := by rw [← hcz.len]; exact hzl
  have hr := run_make (P := P) w t e i zc hu hinfo hz' k k' l cc hl0 hlc (by rw [hby', Int.mul_comm]; omega) (by omega)
  have hmade : madeCells zc.cells (cc.toNat * i.size) = (Array.range (cc.toNat * zc.cells.size)).map (zc.cells[· % zc.cells.size]!) := by
    rw [hsize, ← hzs]; rfl
  have hrep := hcz.rep cc.toNat (by omega)
  have on : One w (.cells (madeCells zc.cells (cc.toNat * i.size)) e) (w.alloc (.cells (madeCells zc.cells (cc.toNat * i.size)) e)) := by
    have := One.push w (.cells (madeCells zc.cells (cc.toNat * i.size)) e)
    simpa using this
  have hsz : (madeCells zc.cells (cc.toNat * i.size)).size = cc.toNat * s := by rw [hmade, ← hrep.len, rep_length, hzl]
  have hle : l.toNat * s ≤ cc.toNat * s := Nat.mul_le_mul_right _ (by omega)
  obtain ⟨G', h1, h2, h3, h4, h5⟩ := new_cells (F := F) h hwf hFO hFN e (rep z.cells l.toNat) _ (by rw [hsz, rep_length, hzl]; exact hle) (fun j hj => by
    have hj' : j < l.toNat * z.cells.length := by rw [← rep_length]; exact hj
    have hj2 : j < cc.toNat * z.cells.length := by rw [hzl] at hj' ⊢; omega
    have e1 := rep_at z.cells l.toNat j hj'
    have e2 := rep_at z.cells cc.toNat j hj2
    rw [← e2, List.getElem?_eq_getElem hj, List.getElem?_eq_getElem (by rw [rep_length]; exact hj2)] at e1
    rw [Option.some.inj e1, hmade]
    exact hrep.at_ j (by rw [rep_length]; exact hj2)) on
  refine ⟨_, _, G', hr, ?_, h1, h2, h5⟩
  exact VR.hnd S.next 0 l.toNat s w.heap.size 0 cc.toNat _ h3 (by omega) h4 (by rw [hsz]; omega)
end
end Go.Proofs.Ytfphpjinimfhfaa.VM
