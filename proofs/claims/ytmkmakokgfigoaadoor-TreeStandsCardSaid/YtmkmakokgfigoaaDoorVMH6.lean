import Derived.Test.YtmkmakokgfigoaaDoorVMH4
import Derived.Test.YtmkmakokgfigoaaDoorVMT22
namespace Go.Proofs.YtmkmakokgfigoaaDoor
open Go.Proofs.YtmkmakokgfigoaaDoor.VM Go.RowKit
set_option maxRecDepth 100000
set_option linter.unusedVariables false
set_option linter.unusedSimpArgs false
set_option maxHeartbeats 4000000
/-! Put. -/
theorem sets_len : ∀ (d cs : List AV) (off : Nat), (setsA cs off d).length = cs.length
  | [], cs, off => rfl
  | x :: d, cs, off => by
    show (setsA (cs.set off x) (off + 1) d).length = _
    rw [sets_len d]; simp
/-- What Put answers. -/
def PutR (x : Nd) (ps : List Int) (y : Nd) (r : AV) : Prop :=
  ((few x = false ∨ few y = false) ∧ r = .tuple [zN.v, .int .i64 8]) ∨ (few x = true ∧ few y = true ∧ putP (er x) ps (er y) = none ∧ r = .tuple [zN.v, .int .i64 19]) ∨
    (few x = true ∧ few y = true ∧ ∃ u z, putP (er x) ps (er y) = some u ∧ er z = u ∧ z.Ok ∧ z.v.shed = z.v ∧ r = .tuple [z.v, .int .i64 0])
theorem t23 (x : Nd) (hx : x.Ok) (ps : List Int) (fp : Sl) (hf : fp = .nil → ps = []) (hp : PsOk ps) (hl : ps.length ≤ 2 ^ 62) (y : Nd) (hy : y.Ok) (S : St) : CallQ Tryd.prog TC 23 [x.v, slV fp (ps.map pI), y.v] S fun r S1 => PutR x ps y r ∧ Keep S S1 := by
  have hfx := t10 x hx
  have hfy := t10 y hy
  have hox : few x = true → ∀ S, CallQ Tryd.prog TC 34 [x.v] S fun r S1 => OwnR (er x) (2 * cnt x) S r S1 := fun h => t34 1024 (by omega) x hx (by unfold few at h; simpa using h)
  have hoy : few y = true → ∀ S, CallQ Tryd.prog TC 34 [y.v] S fun r S1 => OwnR (er y) (2 * cnt y) S r S1 := fun h => t34 1024 (by omega) y hy (by unfold few at h; simpa using h)
  have hR : ∀ r, PutR x ps y r = (((few x = false ∨ few y = false) ∧ r = .tuple [zN.v, .int .i64 8]) ∨ (few x = true ∧ few y = true ∧ putP (er x) ps (er y) = none ∧ r = .tuple [zN.v, .int .i64 19]) ∨
    (few x = true ∧ few y = true ∧ ∃ u z, putP (er x) ps (er y) = some u ∧ er z = u ∧ z.Ok ∧ z.v.shed = z.v ∧ r = .tuple [z.v, .int .i64 0])) := fun r => rfl
  have hdx : pdep (er x) ≤ cnt x := by rw [er_pdep]; exact dep_cnt x
  have hdy : pdep (er y) ≤ cnt y := by rw [er_pdep]; exact dep_cnt y
  simp only [hR]
  generalize few x = fx at *
  generalize few y = fy at *
  generalize cnt x = cx at *
  generalize cnt y = cy at *
  generalize er x = X at *
  generalize er y = Y at *
  clear hR
  obtain ⟨kind, n, neg, dg, ex, tx, fb, bs, fk, keys, fd, kids⟩ := x
  obtain ⟨kind', n', neg', dg', ex', tx', fb', bs', fk', keys', fd', kids'⟩ := y
  obtain ⟨PS, hPS⟩ : ∃ PS, PS = slV fp (ps.map pI) := ⟨_, rfl⟩
  have hfind := fun (F : List Nat) (b off : Nat) (S : St) (h : Loc S b off X F) h2 h3 => t33p X F b off S h h2 h3 ps fp hf hp hl
  rw [← hPS] at hfind ⊢
  have hPSv : PS = .nils ∨ ∃ l t, PS = .lst l t := by
    rw [hPS]; cases fp with
    | nil => exact .inl rfl
    | lst t => exact .inr ⟨_, t, rfl⟩
  clear hPS
  rcases hPSv with rfl | ⟨l, t, rfl⟩
  all_goals
    refine CallQ.of rfl (by kernel_rfl : Tryd.prog.funcs[23]? = some Tryd.f23) rfl (by decide) ?_
    conv => whnf
    have hdn : ∀ b, (S.new b).next = S.next + 1 := fun _ => rfl
    rw [hdn]
    generalize hS1 : (S.new _).new _ = S1
    have k1 : Keep S S1 := by rw [← hS1]; exact ((Keep.refl S).new _).new _
    have a1 := (congrArg (fun s => s.cells S.next) hS1).symm.trans (cells_new_ne (cells_new _ _) (by show S.next ≠ S.next + 1; omega))
    have a2 : S1.cells (S.next + 1) = some zN.cs := by rw [← hS1]; exact cells_new _ _
    have n1 : S1.next = S.next + 2 := by rw [← hS1]; rfl
    clear hS1
    refine ⟨_, a1, ?_⟩
    conv => whnf
    refine CallQ.mono (hfx S1) ?_
    rintro r S2 ⟨rfl, k2⟩
    have n2 := k2.next
    have b1 := (cells_keep k2 (j := S.next) (by omega)).trans a1
    have b2 := (cells_keep k2 (j := S.next + 1) (by omega)).trans a2
    cases fx
    · conv => whnf
      refine ⟨_, _, b2, store_agg rfl rfl rfl, ?_⟩
      conv => whnf
      refine ⟨AV.agg zN.cs, ?_, ?_⟩
      · show (St.cells _ (S.next + 1)).bind _ = _
        rw [cells_set]; rfl
      conv => whnf
      exact ⟨_, _, frz_err _ _ _ (by omega), .inl ⟨.inl rfl, rfl⟩, (k1.trans k2).set _ _ (by omega)⟩
    conv => whnf
    refine CallQ.mono (hfy S2) ?_
    rintro r S3 ⟨rfl, k3⟩
    have n3 := k3.next
    have c1 := (cells_keep k3 (j := S.next) (by omega)).trans b1
    have c2 := (cells_keep k3 (j := S.next + 1) (by omega)).trans b2
    cases fy
    · conv => whnf
      refine ⟨_, _, c2, store_agg rfl rfl rfl, ?_⟩
      conv => whnf
      refine ⟨AV.agg zN.cs, ?_, ?_⟩
      · show (St.cells _ (S.next + 1)).bind _ = _
        rw [cells_set]; rfl
      conv => whnf
      exact ⟨_, _, frz_err _ _ _ (by omega), .inl ⟨.inr rfl, rfl⟩, ((k1.trans k2).trans k3).set _ _ (by omega)⟩
    conv => whnf
    refine ⟨_, c1, ?_⟩
    conv => whnf
    refine CallQ.mono (hox rfl S3) ?_
    rintro r S4 ⟨cs, F, rfl, hn, hnd, hF, k4, m4⟩
    have n4 := k4.next
    have d1 := (cells_keep k4 (j := S.next) (by omega)).trans c1
    have d2 := (cells_keep k4 (j := S.next + 1) (by omega)).trans c2
    obtain ⟨hl9, hlf, _⟩ := hn_cells hn
    have hlt := HN.lt _ hn
    obtain ⟨CS, hCS⟩ : ∃ CS, CS = cs := ⟨_, rfl⟩
    rw [← hCS] at hn
    obtain ⟨q0, q1, q2, q3, q4, q5, q6, q7, q8, rfl⟩ : ∃ c0 c1 c2 c3 c4 c5 c6 c7 c8, cs = [c0, c1, c2, c3, c4, c5, c6, c7, c8] := by
      match cs, hl9 with
      | [x0, x1, x2, x3, x4, x5, x6, x7, x8], _ => exact ⟨x0, x1, x2, x3, x4, x5, x6, x7, x8, rfl⟩
    conv => whnf
    refine ⟨_, _, d1, store_agg rfl rfl hlf, ?_⟩
    conv => whnf
    generalize hS5 : S4.set S.next _ = S5
    have m5 : S5.mem S.next = some (.cells CS) := by rw [← hS5, hCS]; exact mem_set _ _ _
    have m5' : ∀ j, j ≠ S.next → S5.mem j = S4.mem j := fun j hj => by rw [← hS5]; exact set_ne hj
    have n5 : S5.next = S4.next := by rw [← hS5]; rfl
    have e2 : S5.cells (S.next + 1) = some zN.cs := by rw [← hS5]; exact cells_set_ne d2 (by omega)
    clear hS5
    have hFne : ∀ j ∈ F, j ≠ S.next ∧ j ≠ S.next + 1 := fun j hj => by have := hF j hj; omega
    have hLoc : Loc S5 S.next 0 X F := ⟨CS, [], CS, [], m5, by simp, rfl, HN.frame (by omega) _ hn fun j hj => m5' j (hFne j hj).1⟩
    have hSF : S.next ∉ F := fun h => (hFne _ h).1 rfl
    refine CallQ.mono (hfind F S.next 0 S5 hLoc hnd hSF) ?_
    rintro r S6 ⟨rfl, hr1, hr2⟩
    have kS6 : Keep S S6 := ⟨by omega, fun j hj => by rw [m5' j (by omega), k4.mem j (by omega), k3.mem j (by omega), k2.mem j (by omega), k1.mem j hj]⟩
    cases hfd : findP X ps with
    | none =>
      obtain rfl := hr1 hfd
      have hpn : putP X ps Y = none := by
        have := put_find (ps := ps) (x := X) (y := Y)
        rw [hfd] at this
        simpa using this
      conv => whnf
      refine brNe (fun _ => ?_) (fun h => by cases h)
      conv => whnf
      refine ⟨_, _, e2, store_agg rfl rfl rfl, ?_⟩
      conv => whnf
      refine ⟨AV.agg zN.cs, ?_, ?_⟩
      · show (St.cells _ (S.next + 1)).bind _ = _
        rw [cells_set]; rfl
      conv => whnf
      exact ⟨_, _, frz_err _ _ _ (by omega), .inr (.inl ⟨rfl, rfl, hpn, rfl⟩), kS6.set _ _ (by omega)⟩
    | some z =>
      obtain ⟨b, off, Fz, g, rfl, hLz, ⟨hbb, hbF, hFF, hput⟩, hpu⟩ := hr2 z hfd
      conv => whnf
      refine brNe (fun h => absurd rfl h) (fun _ => ?_)
      conv => whnf
      refine CallQ.mono (hoy rfl S6) ?_
      rintro r S7 ⟨ds, G, rfl, hgn, hgd, hG, k7, m7⟩
      have n7 := k7.next
      obtain ⟨hl9', hlf', _⟩ := hn_cells hgn
      have hglt := HN.lt _ hgn
      obtain ⟨cb, cc, hcb, hbn, hbl, _, _⟩ := hLz.get
      have hbm : S6.mem b = some (.cells cb) := by
        obtain ⟨cs', _, _, _, h1, _⟩ := hLz
        have : S6.cells b = some cs' := by unfold St.cells; rw [h1]
        rw [this] at hcb
        cases hcb
        exact h1
      have hb6 : b < S6.next := by
        rcases hbb with rfl | h
        · omega
        · have := hlt b h; omega
      have hcb7 : S7.cells b = some cb := (cells_keep k7 hb6).trans hcb
      have hb1 : b ≠ S.next + 1 := by
        rcases hbb with rfl | h
        · omega
        · exact (hFne b h).2
      have hbS : S.next ≤ b := by
        rcases hbb with rfl | h
        · omega
        · have := hF b h; omega
      obtain ⟨F', hL', hnd', hsub'⟩ := hput S7 Y ds G cb (by omega) (fun j h1 h2 => k7.mem j (by rcases h1 with rfl | h1; omega; have := hlt j h1; omega)) hbm hgn hgd (fun j hj => by
        have := hG j hj
        refine ⟨fun h => by have := hlt j h; omega, by omega, by omega⟩)
      have hCS9 : CS.length = 9 := by rw [hCS]; rfl
      obtain ⟨DS, hDS⟩ : ∃ DS, DS = ds := ⟨_, rfl⟩
      rw [← hDS] at hL'
      obtain ⟨p0, p1, p2, p3, p4, p5, p6, p7, p8, rfl⟩ : ∃ c0 c1 c2 c3 c4 c5 c6 c7 c8, ds = [c0, c1, c2, c3, c4, c5, c6, c7, c8] := by
        match ds, hl9' with
        | [x0, x1, x2, x3, x4, x5, x6, x7, x8], _ => exact ⟨x0, x1, x2, x3, x4, x5, x6, x7, x8, rfl⟩
      conv => whnf
      refine ⟨_, _, hcb7, if_pos ⟨rfl, hlf', hbl⟩, ?_⟩
      conv => whnf
      generalize hS8 : S7.set b _ = S8
      have hS8' : S7.set b (some (.cells (setsA cb off DS))) = S8 := by rw [hDS]; exact hS8
      rw [hS8'] at hL'
      have n8 : S8.next = S7.next := by rw [← hS8]; rfl
      have m8 : ∀ j, j ≠ b → S8.mem j = S7.mem j := fun j hj => by rw [← hS8]; exact set_ne hj
      obtain ⟨ce, e0, e1, e9, hme, hce, heo, hen⟩ := hL'
      have hce9 : ce.length = 9 := by
        by_cases hbe : b = S.next
        · rw [← hS8', hbe, mem_set] at hme
          cases hme
          rw [hbe, m5] at hbm
          cases hbm
          rw [sets_len]; exact hCS9
        · rw [m8 _ (Ne.symm hbe), k7.mem _ (by omega), m5] at hme
          cases hme
          exact hCS9
      have he1 := (hn_cells hen).1
      obtain rfl : e0 = [] := List.length_eq_zero_iff.1 heo
      obtain rfl : e9 = [] := List.length_eq_zero_iff.1 (by rw [hce] at hce9; simp at hce9; omega)
      obtain rfl : ce = e1 := by rw [hce]; simp
      clear hce heo
      have f1 : S8.cells S.next = some ce := by unfold St.cells; rw [hme]
      have f2 : S8.cells (S.next + 1) = some zN.cs := by
        unfold St.cells; rw [m8 _ (Ne.symm hb1), k7.mem _ (by omega)]; exact e2
      have kS8 : Keep S S8 := ⟨by omega, fun j hj => by rw [m8 j (by omega), k7.mem j (by omega)]; exact kS6.mem j hj⟩
      clear hS8 hS8' hput hbm hcb hcb7
      obtain ⟨_, hlfe, _⟩ := hn_cells hen
      have hF'ne : ∀ j ∈ F', j ≠ S.next + 1 ∧ S.next ≤ j := fun j hj => by
        rcases hsub' j hj with h | h
        · have := hF j h; omega
        · have := hG j h; omega
      have hpd := @put_dep ps X Y _ (hpu Y)
      obtain ⟨z', S9, hz1, hz2, hz3, hz4, hz5⟩ := hn_frz (g Y) (S8.next + 1) (S8.set (S.next + 1) (some (.cells ce))) ce F' (HN.frame (S := S8) (S1 := S8.set (S.next + 1) (some (.cells ce))) (Nat.le_refl S8.next) _ hen fun j hj => set_ne (hF'ne j hj).1) hnd' (by omega)
      obtain ⟨r0, r1, r2, r3, r4, r5, r6, r7, r8, rfl⟩ : ∃ c0 c1 c2 c3 c4 c5 c6 c7 c8, ce = [c0, c1, c2, c3, c4, c5, c6, c7, c8] := by
        match ce, hce9 with
        | [x0, x1, x2, x3, x4, x5, x6, x7, x8], _ => exact ⟨x0, x1, x2, x3, x4, x5, x6, x7, x8, rfl⟩
      refine ⟨_, f1, ?_⟩
      conv => whnf
      refine ⟨_, _, f2, store_agg rfl rfl hlfe, ?_⟩
      conv => whnf
      refine ⟨AV.agg [r0, r1, r2, r3, r4, r5, r6, r7, r8], ?_, ?_⟩
      · show (St.cells _ (S.next + 1)).bind _ = _
        rw [cells_set]; rfl
      conv => whnf
      have hfr : frzA (S8.next + 4) (.tuple [.agg [r0, r1, r2, r3, r4, r5, r6, r7, r8], .int .i64 0]) (S8.set (S.next + 1) (some (.cells [r0, r1, r2, r3, r4, r5, r6, r7, r8]))) = some (.tuple [.agg z'.cs, .int .i64 0], S9) := by
        rw [frz_tup, hz1]; rfl
      refine ⟨_, _, hfr, .inr (.inr ⟨rfl, rfl, g Y, z', hpu Y, hz2, hz3.1, ?_, ?_⟩), ?_⟩
      · rw [v_cs]
        show AV.agg _ = _
        rw [hz3.2]
      · show AV.tuple [AV.shed (.agg _), _] = _
        rw [v_cs]
        show AV.tuple [AV.agg (z'.cs.map AV.shedLeaf), _] = _
        rw [hz3.2]; rfl
      · refine ⟨by rw [hz4]; show S.next ≤ S8.next; omega, fun j hj => ?_⟩
        rw [hz5 j (fun h => by have := (hF'ne j h).2; omega), set_ne (by omega)]
        exact kS8.mem j hj
end Go.Proofs.YtmkmakokgfigoaaDoor
namespace Go.Proofs.YtmkmakokgfigoaaDoor
open Go.Proofs.YtmkmakokgfigoaaDoor.VM Go.RowKit
set_option maxRecDepth 100000
set_option linter.unusedVariables false
set_option linter.unusedSimpArgs false
set_option maxHeartbeats 4000000
/-! The document's own step: which place a number leads to. -/
def WayX (x : Nd) (k : Int) (r : AV) : Prop := ∃ (j : Int) (key ok : Bool), r = .tuple [.int .i64 j, .bool key, .bool ok] ∧ (ok = false → wayQ (er x) k = none) ∧ (ok = true → 0 ≤ j ∧ j < 2 ^ 63 ∧ wayQ (er x) k = some (key, j.toNat))
theorem wayQ_er (kind : Int) (n : Nat) (neg : Bool) (dg : List UInt8) (ex : Int) (tx : List UInt8) (fb : Sl) (bs : List UInt8) (fk : Sl) (keys : List Nd) (fd : Sl) (kids : List Nd) (k : Int) :
    wayQ (er (.mk kind n neg dg ex tx fb bs fk keys fd kids)) k = wayP kind keys.length kids.length k := by simp only [er, wayQ, len_ers]
theorem wayx_in {kind : Int} {n : Nat} {neg : Bool} {dg : List UInt8} {ex : Int} {tx : List UInt8} {fb : Sl} {bs : List UInt8} {fk : Sl} {keys : List Nd} {fd : Sl} {kids : List Nd} {xs : List Nd} {k j : Int} {key ok : Bool}
    (h1 : wayP kind keys.length kids.length k = if j.toNat < xs.length then some (key, j.toNat) else none) (h2 : (if key = true then keys else kids) = xs) (hj : 0 ≤ j) (hj2 : j < 2 ^ 63) (hok : ok = decide (j < (xs.length : Nat))) : WayX (.mk kind n neg dg ex tx fb bs fk keys fd kids) k (.tuple [.int .i64 j, .bool key, .bool ok]) := by
  refine ⟨j, key, ok, rfl, fun h => ?_, fun h => ?_⟩
  · rw [wayQ_er, h1, if_neg]
    have : ¬ (j < (xs.length : Nat)) := by rw [h] at hok; simpa using hok.symm
    omega
  · have : j < (xs.length : Nat) := by rw [h] at hok; simpa using hok.symm
    exact ⟨hj, hj2, by rw [wayQ_er, h1, if_pos (by omega)]⟩
theorem wayx_out {kind : Int} {n : Nat} {neg : Bool} {dg : List UInt8} {ex : Int} {tx : List UInt8} {fb : Sl} {bs : List UInt8} {fk : Sl} {keys : List Nd} {fd : Sl} {kids : List Nd} {k j : Int} {key : Bool} (h1 : wayP kind keys.length kids.length k = none) : WayX (.mk kind n neg dg ex tx fb bs fk keys fd kids) k (.tuple [.int .i64 j, .bool key, .bool false]) :=
  ⟨j, key, false, rfl, fun _ => by rw [wayQ_er]; exact h1, fun h => by cases h⟩
theorem t47x (x : Nd) (hx : x.Ok) (k : Int) (h1 : -2 ^ 63 ≤ k) (h2 : k < 2 ^ 63) (S : St) : CallQ Tryd.prog TC 47 [x.v, .int .i64 k] S fun r S1 => WayX x k r ∧ Keep S S1 := by
  obtain ⟨kind, n, neg, dg, ex, tx, fb, bs, fk, keys, fd, kids⟩ := x
  obtain ⟨x1, x2, x3, x4, x5, x6, x7, x8⟩ := hx
  refine CallQ.of rfl (by kernel_rfl : Tryd.prog.funcs[47]? = some Tryd.f47) rfl (by decide) ?_
  rcases fk with _ | tk <;> rcases fd with _ | td
  · conv => whnf
    intro c hc
    cases c
    rotate_left
    · have hp : k < 0 := by simpa using hc
      conv => whnf
      refine ⟨wayx_out (by simp [wayP, hp]), .refl _⟩
    have hp : 0 ≤ k := by simpa using hc
    have hp' : ¬ k < 0 := by omega
    conv => whnf
    intro c1 hc1
    cases c1
    rotate_left
    · have hk : kind = 8 := by simpa using hc1
      conv => whnf
      refine ⟨by decide, ?_⟩
      conv => whnf
      intro c3 hc3
      cases c3
      · have hm : ¬ k % 2 = 0 := by rw [← odd hp]; simpa using hc3
        conv => whnf
        intro c4 hc4
        obtain rfl : c4 = true := by rw [hc4]; exact decide_eq_true hk
        conv => whnf
        refine ⟨[0, 1, 2, 3, 4, 5, 6, 7, 8, 9, 10], [], by kernel_rfl, by kernel_rfl, by kernel_rfl, ?_⟩
        conv => whnf
        refine ⟨by decide, ?_⟩
        rw [half hp h2]
        conv => whnf
        refine ⟨by decide, ?_⟩
        rw [half hp h2]
        conv => whnf
        intro c6 hc6
        conv => whnf
        refine ⟨?_, .refl _⟩
        exact wayx_in (xs := kids) (by simp [wayP, hk, hm, hp']) rfl (by omega) (by omega) (by rw [hc6]; rw [x3 rfl]; rfl)
      · have hm : k % 2 = 0 := by rw [← odd hp]; simpa using hc3
        conv => whnf
        refine ⟨[0, 1, 2, 3, 4, 5, 6, 7, 8, 9, 10], [], by kernel_rfl, by kernel_rfl, by kernel_rfl, ?_⟩
        conv => whnf
        refine ⟨by decide, ?_⟩
        rw [half hp h2]
        conv => whnf
        refine ⟨by decide, ?_⟩
        rw [half hp h2]
        conv => whnf
        intro c6 hc6
        conv => whnf
        refine ⟨?_, .refl _⟩
        exact wayx_in (xs := keys) (by simp [wayP, hk, hm, hp']) rfl (by omega) (by omega) (by rw [hc6]; rw [x2 rfl]; rfl)
    have hk : kind ≠ 8 := by simpa using hc1
    conv => whnf
    intro c4 hc4
    obtain rfl : c4 = false := by rw [hc4]; exact decide_eq_false hk
    conv => whnf
    intro c5 hc5
    cases c5
    rotate_left
    · have hk7 : kind = 7 := by simpa using hc5
      conv => whnf
      refine ⟨[0, 1, 2, 3, 4, 5, 6, 7, 8], [], by kernel_rfl, by kernel_rfl, by kernel_rfl, ?_⟩
      conv => whnf
      intro c6 hc6
      conv => whnf
      refine ⟨?_, .refl _⟩
      exact wayx_in (xs := kids) (by simp [wayP, hk7, hp']) rfl (by omega) (by omega) (by rw [hc6]; rw [x3 rfl]; rfl)
    have hk7 : kind ≠ 7 := by simpa using hc5
    conv => whnf
    intro c5 hc5
    cases c5
    rotate_left
    · have hk9 : kind = 9 := by simpa using hc5
      conv => whnf
      refine ⟨[0, 1, 2, 3, 4, 5, 6, 7, 8], [], by kernel_rfl, by kernel_rfl, by kernel_rfl, ?_⟩
      conv => whnf
      intro c6 hc6
      conv => whnf
      refine ⟨?_, .refl _⟩
      exact wayx_in (xs := kids) (by simp [wayP, hk9, hp']) rfl (by omega) (by omega) (by rw [hc6]; rw [x3 rfl]; rfl)
    have hk9 : kind ≠ 9 := by simpa using hc5
    conv => whnf
    refine ⟨wayx_out (by simp [wayP, hk, hk7, hk9]), .refl _⟩
  · conv => whnf
    intro c hc
    cases c
    rotate_left
    · have hp : k < 0 := by simpa using hc
      conv => whnf
      refine ⟨wayx_out (by simp [wayP, hp]), .refl _⟩
    have hp : 0 ≤ k := by simpa using hc
    have hp' : ¬ k < 0 := by omega
    conv => whnf
    intro c1 hc1
    cases c1
    rotate_left
    · have hk : kind = 8 := by simpa using hc1
      conv => whnf
      refine ⟨by decide, ?_⟩
      conv => whnf
      intro c3 hc3
      cases c3
      · have hm : ¬ k % 2 = 0 := by rw [← odd hp]; simpa using hc3
        conv => whnf
        intro c4 hc4
        obtain rfl : c4 = true := by rw [hc4]; exact decide_eq_true hk
        conv => whnf
        refine ⟨[0, 1, 2, 3, 4, 5, 6, 7, 8, 9, 10], [], by kernel_rfl, by kernel_rfl, by kernel_rfl, ?_⟩
        conv => whnf
        refine ⟨by decide, ?_⟩
        rw [half hp h2]
        conv => whnf
        refine ⟨by decide, ?_⟩
        rw [half hp h2]
        conv => whnf
        intro c6 hc6
        conv => whnf
        refine ⟨?_, .refl _⟩
        exact wayx_in (xs := kids) (by simp [wayP, hk, hm, hp']) rfl (by omega) (by omega) (by rw [hc6]; rw [vs_len])
      · have hm : k % 2 = 0 := by rw [← odd hp]; simpa using hc3
        conv => whnf
        refine ⟨[0, 1, 2, 3, 4, 5, 6, 7, 8, 9, 10], [], by kernel_rfl, by kernel_rfl, by kernel_rfl, ?_⟩
        conv => whnf
        refine ⟨by decide, ?_⟩
        rw [half hp h2]
        conv => whnf
        refine ⟨by decide, ?_⟩
        rw [half hp h2]
        conv => whnf
        intro c6 hc6
        conv => whnf
        refine ⟨?_, .refl _⟩
        exact wayx_in (xs := keys) (by simp [wayP, hk, hm, hp']) rfl (by omega) (by omega) (by rw [hc6]; rw [x2 rfl]; rfl)
    have hk : kind ≠ 8 := by simpa using hc1
    conv => whnf
    intro c4 hc4
    obtain rfl : c4 = false := by rw [hc4]; exact decide_eq_false hk
    conv => whnf
    intro c5 hc5
    cases c5
    rotate_left
    · have hk7 : kind = 7 := by simpa using hc5
      conv => whnf
      refine ⟨[0, 1, 2, 3, 4, 5, 6, 7, 8], [], by kernel_rfl, by kernel_rfl, by kernel_rfl, ?_⟩
      conv => whnf
      intro c6 hc6
      conv => whnf
      refine ⟨?_, .refl _⟩
      exact wayx_in (xs := kids) (by simp [wayP, hk7, hp']) rfl (by omega) (by omega) (by rw [hc6]; rw [vs_len])
    have hk7 : kind ≠ 7 := by simpa using hc5
    conv => whnf
    intro c5 hc5
    cases c5
    rotate_left
    · have hk9 : kind = 9 := by simpa using hc5
      conv => whnf
      refine ⟨[0, 1, 2, 3, 4, 5, 6, 7, 8], [], by kernel_rfl, by kernel_rfl, by kernel_rfl, ?_⟩
      conv => whnf
      intro c6 hc6
      conv => whnf
      refine ⟨?_, .refl _⟩
      exact wayx_in (xs := kids) (by simp [wayP, hk9, hp']) rfl (by omega) (by omega) (by rw [hc6]; rw [vs_len])
    have hk9 : kind ≠ 9 := by simpa using hc5
    conv => whnf
    refine ⟨wayx_out (by simp [wayP, hk, hk7, hk9]), .refl _⟩
  · conv => whnf
    intro c hc
    cases c
    rotate_left
    · have hp : k < 0 := by simpa using hc
      conv => whnf
      refine ⟨wayx_out (by simp [wayP, hp]), .refl _⟩
    have hp : 0 ≤ k := by simpa using hc
    have hp' : ¬ k < 0 := by omega
    conv => whnf
    intro c1 hc1
    cases c1
    rotate_left
    · have hk : kind = 8 := by simpa using hc1
      conv => whnf
      refine ⟨by decide, ?_⟩
      conv => whnf
      intro c3 hc3
      cases c3
      · have hm : ¬ k % 2 = 0 := by rw [← odd hp]; simpa using hc3
        conv => whnf
        intro c4 hc4
        obtain rfl : c4 = true := by rw [hc4]; exact decide_eq_true hk
        conv => whnf
        refine ⟨[0, 1, 2, 3, 4, 5, 6, 7, 8, 9, 10], [], by kernel_rfl, by kernel_rfl, by kernel_rfl, ?_⟩
        conv => whnf
        refine ⟨by decide, ?_⟩
        rw [half hp h2]
        conv => whnf
        refine ⟨by decide, ?_⟩
        rw [half hp h2]
        conv => whnf
        intro c6 hc6
        conv => whnf
        refine ⟨?_, .refl _⟩
        exact wayx_in (xs := kids) (by simp [wayP, hk, hm, hp']) rfl (by omega) (by omega) (by rw [hc6]; rw [x3 rfl]; rfl)
      · have hm : k % 2 = 0 := by rw [← odd hp]; simpa using hc3
        conv => whnf
        refine ⟨[0, 1, 2, 3, 4, 5, 6, 7, 8, 9, 10], [], by kernel_rfl, by kernel_rfl, by kernel_rfl, ?_⟩
        conv => whnf
        refine ⟨by decide, ?_⟩
        rw [half hp h2]
        conv => whnf
        refine ⟨by decide, ?_⟩
        rw [half hp h2]
        conv => whnf
        intro c6 hc6
        conv => whnf
        refine ⟨?_, .refl _⟩
        exact wayx_in (xs := keys) (by simp [wayP, hk, hm, hp']) rfl (by omega) (by omega) (by rw [hc6]; rw [vs_len])
    have hk : kind ≠ 8 := by simpa using hc1
    conv => whnf
    intro c4 hc4
    obtain rfl : c4 = false := by rw [hc4]; exact decide_eq_false hk
    conv => whnf
    intro c5 hc5
    cases c5
    rotate_left
    · have hk7 : kind = 7 := by simpa using hc5
      conv => whnf
      refine ⟨[0, 1, 2, 3, 4, 5, 6, 7, 8], [], by kernel_rfl, by kernel_rfl, by kernel_rfl, ?_⟩
      conv => whnf
      intro c6 hc6
      conv => whnf
      refine ⟨?_, .refl _⟩
      exact wayx_in (xs := kids) (by simp [wayP, hk7, hp']) rfl (by omega) (by omega) (by rw [hc6]; rw [x3 rfl]; rfl)
    have hk7 : kind ≠ 7 := by simpa using hc5
    conv => whnf
    intro c5 hc5
    cases c5
    rotate_left
    · have hk9 : kind = 9 := by simpa using hc5
      conv => whnf
      refine ⟨[0, 1, 2, 3, 4, 5, 6, 7, 8], [], by kernel_rfl, by kernel_rfl, by kernel_rfl, ?_⟩
      conv => whnf
      intro c6 hc6
      conv => whnf
      refine ⟨?_, .refl _⟩
      exact wayx_in (xs := kids) (by simp [wayP, hk9, hp']) rfl (by omega) (by omega) (by rw [hc6]; rw [x3 rfl]; rfl)
    have hk9 : kind ≠ 9 := by simpa using hc5
    conv => whnf
    refine ⟨wayx_out (by simp [wayP, hk, hk7, hk9]), .refl _⟩
  · conv => whnf
    intro c hc
    cases c
    rotate_left
    · have hp : k < 0 := by simpa using hc
      conv => whnf
      refine ⟨wayx_out (by simp [wayP, hp]), .refl _⟩
    have hp : 0 ≤ k := by simpa using hc
    have hp' : ¬ k < 0 := by omega
    conv => whnf
    intro c1 hc1
    cases c1
    rotate_left
    · have hk : kind = 8 := by simpa using hc1
      conv => whnf
      refine ⟨by decide, ?_⟩
      conv => whnf
      intro c3 hc3
      cases c3
      · have hm : ¬ k % 2 = 0 := by rw [← odd hp]; simpa using hc3
        conv => whnf
        intro c4 hc4
        obtain rfl : c4 = true := by rw [hc4]; exact decide_eq_true hk
        conv => whnf
        refine ⟨[0, 1, 2, 3, 4, 5, 6, 7, 8, 9, 10], [], by kernel_rfl, by kernel_rfl, by kernel_rfl, ?_⟩
        conv => whnf
        refine ⟨by decide, ?_⟩
        rw [half hp h2]
        conv => whnf
        refine ⟨by decide, ?_⟩
        rw [half hp h2]
        conv => whnf
        intro c6 hc6
        conv => whnf
        refine ⟨?_, .refl _⟩
        exact wayx_in (xs := kids) (by simp [wayP, hk, hm, hp']) rfl (by omega) (by omega) (by rw [hc6]; rw [vs_len])
      · have hm : k % 2 = 0 := by rw [← odd hp]; simpa using hc3
        conv => whnf
        refine ⟨[0, 1, 2, 3, 4, 5, 6, 7, 8, 9, 10], [], by kernel_rfl, by kernel_rfl, by kernel_rfl, ?_⟩
        conv => whnf
        refine ⟨by decide, ?_⟩
        rw [half hp h2]
        conv => whnf
        refine ⟨by decide, ?_⟩
        rw [half hp h2]
        conv => whnf
        intro c6 hc6
        conv => whnf
        refine ⟨?_, .refl _⟩
        exact wayx_in (xs := keys) (by simp [wayP, hk, hm, hp']) rfl (by omega) (by omega) (by rw [hc6]; rw [vs_len])
    have hk : kind ≠ 8 := by simpa using hc1
    conv => whnf
    intro c4 hc4
    obtain rfl : c4 = false := by rw [hc4]; exact decide_eq_false hk
    conv => whnf
    intro c5 hc5
    cases c5
    rotate_left
    · have hk7 : kind = 7 := by simpa using hc5
      conv => whnf
      refine ⟨[0, 1, 2, 3, 4, 5, 6, 7, 8], [], by kernel_rfl, by kernel_rfl, by kernel_rfl, ?_⟩
      conv => whnf
      intro c6 hc6
      conv => whnf
      refine ⟨?_, .refl _⟩
      exact wayx_in (xs := kids) (by simp [wayP, hk7, hp']) rfl (by omega) (by omega) (by rw [hc6]; rw [vs_len])
    have hk7 : kind ≠ 7 := by simpa using hc5
    conv => whnf
    intro c5 hc5
    cases c5
    rotate_left
    · have hk9 : kind = 9 := by simpa using hc5
      conv => whnf
      refine ⟨[0, 1, 2, 3, 4, 5, 6, 7, 8], [], by kernel_rfl, by kernel_rfl, by kernel_rfl, ?_⟩
      conv => whnf
      intro c6 hc6
      conv => whnf
      refine ⟨?_, .refl _⟩
      exact wayx_in (xs := kids) (by simp [wayP, hk9, hp']) rfl (by omega) (by omega) (by rw [hc6]; rw [vs_len])
    have hk9 : kind ≠ 9 := by simpa using hc5
    conv => whnf
    refine ⟨wayx_out (by simp [wayP, hk, hk7, hk9]), .refl _⟩
end Go.Proofs.YtmkmakokgfigoaaDoor
