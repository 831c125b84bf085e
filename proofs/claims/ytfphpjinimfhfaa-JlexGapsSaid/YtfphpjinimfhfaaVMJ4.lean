import Derived.Test.YtfphpjinimfhfaaVMJ3
namespace Go.Proofs.Ytfphpjinimfhfaa
open Go.Proofs.Ytfphpjinimfhfaa.VM Go.RowKit
set_option maxRecDepth 100000
set_option linter.unusedVariables false
set_option maxHeartbeats 1000000
theorem ib_app (a b : List UInt8) : ib (a ++ b) = ib a ++ ib b := by simp [ib]
theorem ib_drop (a : List UInt8) (n : Nat) : ib (a.drop n) = (ib a).drop n := by simp [ib]
theorem ib_take (a : List UInt8) (n : Nat) : ib (a.take n) = (ib a).take n := by simp [ib]
theorem ib_inj {a b : List UInt8} (h : ib a = ib b) : a = b := by
  induction a generalizing b with
  | nil => cases b with
    | nil => rfl
    | cons y b => simp [ib] at h
  | cons x a ih => cases b with
    | nil => simp [ib] at h
    | cons y b =>
      simp only [ib, List.map_cons, List.cons.injEq] at h
      have : x = y := UInt8.toNat_inj.1 (by omega)
      rw [this, ih h.2]
theorem ib_str (bs : List UInt8) : strOfNums (ib bs) = ⟨bs.toArray⟩ := by
  have : (ib bs).map (fun n => UInt8.ofNat n.toNat) = bs := by
    simp only [ib, List.map_map]
    conv => rhs; rw [← List.map_id bs]
    refine List.map_congr_left fun b _ => ?_
    simp
  unfold strOfNums
  rw [this]
theorem decode_ib {bs : List UInt8} {p : Nat} (hp : p < bs.length) : Utf8.decode ⟨bs.toArray⟩ p = if (oneS ((ib bs).drop p)).2.2 < 0 then ((oneS ((ib bs).drop p)).1.toNat, (oneS ((ib bs).drop p)).2.1.toNat) else (65533, 1) := by
  rw [← ib_str]
  exact decode_one (ib_byt bs) (by rw [ib_len]; exact hp)

/-- The characters, and where they go wrong (-1: nowhere). -/
def runF (l : List Int) : List Int × Int := runS l.length l
theorem runF_bad {l : List Int} (hl : l ≠ []) (h : ¬ (oneS l).2.2 < 0) : runF l = ([], (oneS l).2.2) := by
  obtain ⟨n, hn⟩ : ∃ n, l.length = n + 1 := ⟨l.length - 1, by have := List.length_pos_iff.2 hl; omega⟩
  unfold runF
  rw [hn]; exact runS_bad hl h
theorem runF_good {l : List Int} (hb : Byt l) (hl : l ≠ []) (h : (oneS l).2.2 < 0) :
    runF l = ((oneS l).1 :: (runF (l.drop (oneS l).2.1.toNat)).1, if (runF (l.drop (oneS l).2.1.toNat)).2 < 0 then -1 else (oneS l).2.1 + (runF (l.drop (oneS l).2.1.toNat)).2) := by
  obtain ⟨n, hn⟩ : ∃ n, l.length = n + 1 := ⟨l.length - 1, by have := List.length_pos_iff.2 hl; omega⟩
  obtain ⟨g1, g2, g3, g4, _, _⟩ := one_good hb h
  unfold runF
  rw [hn, runS_good hl h, runS_more (l.drop (oneS l).2.1.toNat).length n _ (hb.drop _) (Nat.le_refl _) (by simp; omega)]
theorem runF_nil : runF [] = ([], -1) := rfl
theorem runF_place {l : List Int} (hb : Byt l) : -1 ≤ (runF l).2 ∧ (runF l).2 ≤ l.length := runS_place _ l hb
/-- The fault of a text, from a place on. -/
def telS (l : List Int) (p : Nat) : Int × Int := if (runF (l.drop p)).2 < 0 then (0, 0) else (6, p + (runF (l.drop p)).2)
def faultV (f : Int × Int) : AV := .agg [.int .i64 f.1, .int .i64 f.2]
theorem telS_end {l : List Int} {p : Nat} (h : l.length ≤ p) : telS l p = (0, 0) := by
  unfold telS; rw [List.drop_eq_nil_iff.2 h]; rfl
theorem drop_ne_nil {l : List Int} {p : Nat} (h : p < l.length) : l.drop p ≠ [] := fun e => by have := congrArg List.length e; simp at this; omega
theorem telS_good {l : List Int} (hb : Byt l) {p : Nat} (hp : p < l.length) (h : (oneS (l.drop p)).2.2 < 0) : telS l p = telS l (p + (oneS (l.drop p)).2.1.toNat) := by
  obtain ⟨g1, g2, g3, g4, _, _⟩ := one_good (hb.drop p) h
  unfold telS
  rw [runF_good (hb.drop p) (drop_ne_nil hp) h, List.drop_drop]
  simp only
  have := runF_place ((hb.drop (p + (oneS (l.drop p)).2.1.toNat)))
  by_cases h2 : (runF (l.drop (p + (oneS (l.drop p)).2.1.toNat))).2 < 0
  · rw [if_pos h2, if_pos h2]; rfl
  · rw [if_neg h2, if_neg h2, if_neg (by omega)]
    congr 1
    omega
theorem telS_bad {l : List Int} {p : Nat} (hp : p < l.length) (h : ¬ (oneS (l.drop p)).2.2 < 0) : telS l p = (6, p + (oneS (l.drop p)).2.2) := by
  unfold telS
  rw [runF_bad (drop_ne_nil hp) h]
  rw [if_neg h]

theorem conv_str (bs : List UInt8) (t : Tip) (S : St) : convertA Try.prog S 25 9 (.lst (bs.map u8) t) = some (.str bs) := by
  have : convertA Try.prog S 25 9 (.lst (bs.map u8) t) = (bytesOfA (bs.map u8)).map .str := rfl
  rw [this, bytesOfA_u8]; rfl
theorem und25 : Try.prog.underlying 25 = some (.slice 5) := by kernel_rfl
theorem sz5 : szA Try.prog 5 = some 1 := by kernel_rfl
theorem cut_from (bs : List UInt8) (t : Tip) (p : Nat) (hp : p ≤ bs.length) : ∃ t', sliceA Try.prog 25 (.lst (bs.map u8) t) (some (.int .i64 p)) none none = some (.lst ((bs.drop p).map u8) t') := by
  obtain ⟨t', h⟩ := slice_lo (P := Try.prog) und25 sz5 (bs.map u8) t (headOk_u8 bs) p (by simpa using hp) .i64
  exact ⟨t', by rw [h]; simp⟩
theorem iter_keep {S S1 : St} (k : Keep S S1) {n : Nat} (hn : n < S.next) {b : Blk} (h : S.mem n = some b) : S1.mem n = some b := by rw [k.mem n hn]; exact h

theorem t17 (h : Bool) (bs : List UInt8) (hl : bs.length ≤ 2 ^ 47) (v : AV) (hv : Elems v (bs.map u8)) (S : St) :
    CallQ Try.prog (JC h) 17 [v] S fun r S1 => Keep S S1 ∧ r = faultV (telS (ib bs) 0) := by
  refine CallQ.of rfl (by kernel_rfl : Try.prog.funcs[17]? = some Try.f17) rfl (by decide) ?_
  rcases hv with ⟨rfl, hnil⟩ | ⟨t, rfl⟩
  · obtain rfl : bs = [] := by simpa using hnil
    conv => whnf
    refine CodeQ.round ?_
    conv => whnf
    refine ⟨_, _, next_end (mem_new _ _) (Nat.le_refl _), ?_⟩
    conv => whnf
    refine ⟨_, _, cells_new_ne (cells_new _ _) (by show S.next ≠ S.next + 1; omega), store_agg rfl rfl rfl, ?_⟩
    conv => whnf
    refine ⟨.agg [.int .i64 0, .int .i64 0], by show (St.cells _ S.next).bind _ = _; rw [cells_set]; rfl, ?_⟩
    conv => whnf
    exact ⟨((Keep.refl S).new _).new _ |>.set _ _ (Nat.le_refl _), rfl⟩
  conv => whnf
  refine ⟨_, conv_str bs t _, ?_⟩
  conv => whnf
  generalize hS1 : (S.new _).new _ = S1
  have k1 : Keep S S1 := by rw [← hS1]; exact ((Keep.refl S).new _).new _
  have a1 : S1.cells S.next = some [.int .i64 0, .int .i64 0] := by rw [← hS1]; exact cells_new_ne (cells_new _ _) (by show S.next ≠ S.next + 1; omega)
  have m1 : S1.mem (S.next + 1) = some (.iter bs 0) := by rw [← hS1]; exact mem_new _ _
  have n1 : S1.next = S.next + 2 := by rw [← hS1]; rfl
  clear hS1
  refine CodeQ.loop (fun (p : Nat) => pat 32 [(0, .lst (bs.map u8) t), (2, .ptr S.next 0), (10, .iter (S.next + 1))])
    (fun m p S2 => Keep S S2 ∧ S.next + 2 ≤ S2.next ∧ S2.cells S.next = some [.int .i64 0, .int .i64 0] ∧ S2.mem (S.next + 1) = some (.iter bs p) ∧ p ≤ bs.length ∧ m = bs.length - p ∧ telS (ib bs) 0 = telS (ib bs) p) ?_ bs.length 0 _ _
    ⟨k1, by omega, a1, m1, by omega, by omega, rfl⟩ ⟨rfl, rfl, rfl, trivial⟩
  clear k1 a1 m1 n1 S1
  rintro m p S2 d ⟨k2, n2, a2, m2, q1, q2, q3⟩
  rw [q3]
  clear q3
  conv => whnf
  rcases Nat.lt_or_ge p bs.length with hp | hp
  rotate_left
  · refine ⟨_, _, next_end m2 hp, ?_⟩
    conv => whnf
    refine ⟨_, _, a2, store_agg rfl rfl rfl, ?_⟩
    conv => whnf
    refine ⟨.agg [.int .i64 0, .int .i64 0], by show (St.cells _ S.next).bind _ = _; rw [cells_set]; rfl, ?_⟩
    conv => whnf
    refine ⟨k2.set _ _ (Nat.le_refl _), ?_⟩
    rw [telS_end (by rw [ib_len]; exact hp)]
    rfl
  refine ⟨_, _, next_more m2 hp, ?_⟩
  have hp' : p < (ib bs).length := by rw [ib_len]; exact hp
  have hdec := decode_ib hp
  have hg := telS_good (ib_byt bs) hp'
  have hbd := telS_bad hp'
  have hb1 : (oneS ((ib bs).drop p)).2.2 < 0 → _ := one_good ((ib_byt bs).drop p)
  have hone : ∀ t' S, CallQ Try.prog (JC h) 30 [.lst ((bs.drop p).map u8) t'] S fun r S1 => Keep S S1 ∧ r = oneV (oneS ((ib bs).drop p)) := by
    intro t' S
    rw [← ib_drop]
    cases hd : bs.drop p with
    | nil => have := congrArg List.length hd; simp at this; omega
    | cons b tl => exact t30 h b tl t' S
  have hdl : ((ib bs).drop p).length = bs.length - p := by rw [List.length_drop, ib_len]
  have hbad := @one_bad ((ib bs).drop p)
  rw [hdl] at hb1 hbad
  rw [hdec]
  generalize oneS ((ib bs).drop p) = o at *
  obtain ⟨v, n, w⟩ := o
  dsimp only at *
  by_cases hw : w < 0
  · obtain ⟨g1, g2, g3, g4, g5, g6⟩ := hb1 hw
    rw [if_pos hw]
    rw [hg hw]
    have fin : ∀ S3, Keep S2 S3 → S3.mem (S.next + 1) = some (.iter bs (p + n.toNat)) → S3.cells S.next = some [.int .i64 0, .int .i64 0] → True := fun _ _ _ _ => trivial
    conv => whnf
    refine brNe (fun hne => ?_) (fun he => ?_)
    · conv => whnf
      refine ⟨bs.length - (p + n.toNat), p + n.toNat, by omega, ⟨k2.set _ _ (by omega), n2, cells_set_ne a2 (by omega), mem_set _ _ _, by omega, rfl, rfl⟩, ⟨rfl, rfl, rfl, trivial⟩⟩
    · conv => whnf
      obtain ⟨t', ht'⟩ := cut_from bs t p (by omega)
      refine ⟨_, ht', ?_⟩
      conv => whnf
      refine CallQ.mono (hone t' _) ?_
      rintro r S3 ⟨k3, rfl⟩
      have n3 := k3.next
      have n3' : S2.next ≤ S3.next := n3
      conv => whnf
      refine br (fun hc => absurd hc (by show ¬ w ≥ 0; omega)) (fun _ => ?_)
      conv => whnf
      refine ⟨bs.length - (p + n.toNat), p + n.toNat, by omega, ⟨(k2.set _ _ (by omega)).trans k3, by omega, ?_, ?_, by omega, rfl, rfl⟩, ⟨rfl, rfl, rfl, trivial⟩⟩
      · rw [kcells k3 (by show S.next < S2.next; omega)]; exact cells_set_ne a2 (by omega)
      · exact iter_keep k3 (by show S.next + 1 < S2.next; omega) (mem_set _ _ _)
  · rw [if_neg hw]
    rw [hbd hw]
    obtain ⟨_, _, hwl⟩ := hbad hw
    have hwl2 : w ≤ bs.length := Int.le_trans hwl (by omega)
    conv => whnf
    refine brNe (fun hne => absurd rfl hne) (fun he => ?_)
    conv => whnf
    obtain ⟨t', ht'⟩ := cut_from bs t p (by omega)
    refine ⟨_, ht', ?_⟩
    conv => whnf
    refine CallQ.mono (hone t' _) ?_
    rintro r S3 ⟨k3, rfl⟩
    have n3' : S2.next ≤ S3.next := k3.next
    conv => whnf
    refine br (fun hc => ?_) (fun hc => absurd (show w ≥ 0 by omega) hc)
    conv => whnf
    have a3 : S3.cells S.next = some [.int .i64 0, .int .i64 0] := by rw [kcells k3 (by show S.next < S2.next; omega)]; exact cells_set_ne a2 (by omega)
    refine ⟨_, _, a3, store_agg rfl rfl rfl, ?_⟩
    conv => whnf
    refine ⟨_, by show (St.cells _ S.next).bind _ = _; rw [cells_set]; rfl, ?_⟩
    conv => whnf
    refine ⟨((k2.set _ _ (by omega)).trans k3).set _ _ (Nat.le_refl _), ?_⟩
    show AV.agg [.int .i64 6, .int .i64 (IntKind.i64.wrap ((p : Int) + w))] = _
    rw [wrap_i64 (by omega) (by omega)]
    rfl
end Go.Proofs.Ytfphpjinimfhfaa
