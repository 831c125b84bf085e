import Derived.Test.YtiknkngdfdmkbaaDoorVML15
namespace Go.Proofs.YtiknkngdfdmkbaaDoor
open Go.Proofs.YtiknkngdfdmkbaaDoor.VM
set_option maxRecDepth 100000
set_option linter.unusedVariables false

def rdN : PSt → Nat × PSt
  | .error f => (0, .error f)
  | .ok r => match rdS r 0 0 with
    | .error f => (0, .error f)
    | .ok (n, r') => (n, .ok r')
def rdPath : Nat → PSt → List Int × PSt
  | 0, st => ([], st)
  | k + 1, st => (((within 0 4095 5 st).1 : Int) :: (rdPath k (within 0 4095 5 st).2).1, (rdPath k (within 0 4095 5 st).2).2)
structure Raw where
  kind : Nat
  n : Nat
  ps : List Int
def rdLoss (st : PSt) : Raw × PSt :=
  (⟨(within 1 6 5 st).1, (rdN (within 1 6 5 st).2).1, (rdPath (within 0 64 8 (rdN (within 1 6 5 st).2).2).1 (within 0 64 8 (rdN (within 1 6 5 st).2).2).2).1⟩,
    (rdPath (within 0 64 8 (rdN (within 1 6 5 st).2).2).1 (within 0 64 8 (rdN (within 1 6 5 st).2).2).2).2)
/-- Losses behind 'acc'. -/
def rdAll : Nat → PSt → List Raw → Except Flt (List Raw × List UInt8)
  | 0, .ok r, acc => .ok (acc, r)
  | 0, .error f, acc => .error f
  | n + 1, st, acc => match (rdLoss st).2 with
    | .error f => .error f
    | .ok r => rdAll n (.ok r) (acc ++ [(rdLoss st).1])
def parse (bs : List UInt8) : Except Flt (List Raw) :=
  match rdAll (within 0 2048 8 (.ok bs)).1 (within 0 2048 8 (.ok bs)).2 [] with
  | .error f => .error f
  | .ok (xs, []) => .ok xs
  | .ok (xs, r) => .error (10, r.length)

theorem But.keep {c rb : Nat} {S0 S S1 : St} (h : But c rb S S1) (k : Keep S0 S) (hc : S0.next ≤ c) (hr : S0.next ≤ rb) : Keep S0 S1 :=
  ⟨Nat.le_trans k.next h.next, fun j hj => by rw [h.mem j (by have := k.next; omega) (by omega) (by omega), k.mem j hj]⟩
theorem But.cells {c rb : Nat} {S S1 : St} (h : But c rb S S1) {j : Nat} {cs : List AV} (hc : S.cells j = some cs) (hj : j < S.next) (h1 : j ≠ c) (h2 : j ≠ rb) : S1.cells j = some cs := by
  unfold St.cells at *; rw [h.mem j hj h1 h2]; exact hc
theorem Own.but {c rb : Nat} {S0 S S1 : St} {v : AV} {xs x y : List AV} (h : Own S0 S v xs) (k : But c rb S S1) (hc : S.cells c = some x) (hr : S.cells rb = some y) : Own S0 S1 v xs := by
  rcases h with h | ⟨n, h1, h2, h3, h4⟩
  · exact .inl h
  · have n1 : n ≠ c := by rintro rfl; unfold St.cells at hc; rw [h4] at hc; cases hc
    have n2 : n ≠ rb := by rintro rfl; unfold St.cells at hr; rw [h4] at hr; cases hr
    exact .inr ⟨n, h1, by have := k.next; omega, h3, by rw [k.mem n h2 n1 n2]; exact h4⟩
theorem Own.set {S0 S : St} {v : AV} {xs x : List AV} {j : Nat} (h : Own S0 S v xs) (hc : S.cells j = some x) (b : Option Blk) : Own S0 (S.set j b) v xs := by
  rcases h with h | ⟨n, h1, h2, h3, h4⟩
  · exact .inl h
  · have n1 : n ≠ j := by rintro rfl; unfold St.cells at hc; rw [h4] at hc; cases hc
    exact .inr ⟨n, h1, h2, h3, by show upd S.mem j b n = _; simp [upd, n1, h4]⟩
theorem RSt.cc {S : St} {rb c : Nat} {bs : List UInt8} {v : AV} {st : PSt} (h : RSt S rb c bs v st) : (∃ x, S.cells c = some x) ∧ ∃ y, S.cells rb = some y := by
  obtain ⟨_, _, _, _, h5⟩ := h
  cases st with
  | ok r => exact ⟨⟨_, h5.2.1⟩, ⟨_, h5.2.2⟩⟩
  | error f => obtain ⟨_, _, a, ⟨h1, h2⟩ | ⟨h1, h2⟩⟩ := h5 <;> exact ⟨⟨_, h1⟩, ⟨_, h2⟩⟩
theorem own_rst {c rb : Nat} {S0 S S1 : St} {w v : AV} {bs : List UInt8} {st : PSt} {xs : List AV} (h : Own S0 S w xs) (hst : RSt S rb c bs v st) (k : But c rb S S1) : Own S0 S1 w xs := by
  obtain ⟨⟨x, hx⟩, ⟨y, hy⟩⟩ := hst.cc
  exact Own.but h k hx hy
theorem RSt.set {S : St} {rb c j : Nat} {bs : List UInt8} {v : AV} {st : PSt} (h : RSt S rb c bs v st) (b : List AV) (h1 : j ≠ c) (h2 : j ≠ rb) : RSt (S.set j (some (.cells b))) rb c bs v st := by
  obtain ⟨a1, a2, a3, a4, a5⟩ := h
  have e1 : (S.set j (some (.cells b))).cells c = S.cells c := by simp only [St.cells, St.set, upd, if_neg (Ne.symm h1)]
  have e2 : (S.set j (some (.cells b))).cells rb = S.cells rb := by simp only [St.cells, St.set, upd, if_neg (Ne.symm h2)]
  refine ⟨a1, a2, a3, a4, ?_⟩
  rw [e1, e2]; exact a5
theorem RSt.new {S : St} {rb c : Nat} {bs : List UInt8} {v : AV} {st : PSt} (h : RSt S rb c bs v st) (b : Blk) : RSt (S.new b) rb c bs v st := h.keep ((Keep.refl S).new b)

theorem el32 : Elem Tryd.prog 32 3 1 8 false (.int .i64 0) := ⟨by kernel_rfl, by kernel_rfl, by kernel_rfl, by kernel_rfl, by kernel_rfl, rfl, by decide⟩
theorem el22 : Elem Tryd.prog 22 35 3 40 true (.agg [.nils, .int .i64 0, .int .u64 0]) := ⟨by kernel_rfl, by kernel_rfl, by kernel_rfl, by kernel_rfl, by kernel_rfl, rfl, by decide⟩
theorem shed_I64 (ps : List Int) : (ps.map I64).map AV.shed = ps.map I64 := by simp [I64, AV.shed, AV.shedLeaf]
theorem well_I64 (ps : List Int) : wellA 1 (ps.map I64) = true := by simp [wellA, I64, AV.cells, AV.leafOk]

/-- Own.append', of which only what lies below the base is asked. -/
theorem own_append2 {P : Program} {C : Cfg} {f : FuncId} {t e : TypeId} {s by_ : Nat} {ag : Bool} {z : AV} (hE : Elem P t e s by_ ag z) (hh : C.hnd f = false) {S0 S : St} {v y : AV} {xs ys : List AV} (hv : Own S0 S v xs) (hk : S0.next ≤ S.next) (hy : elemsA S ag s y = some ys) (hsh : ys.map AV.shed = ys)
    (hw : wellA s xs = true) (hw2 : wellA s ys = true) (hne : ys ≠ []) (hs : (xs.length + ys.length) * by_ ≤ 140737488355328 ∧ xs.length + ys.length ≤ 140737488355328) :
    ∃ r S1, builtinA P C f .append #[t, t] [v, y] S = some (.ret r, S1) ∧ Own S0 S1 r (xs ++ ys) ∧ S.next ≤ S1.next ∧ (∀ j, j < S0.next → S1.mem j = S.mem j) ∧ ∀ j cs, j < S.next → S.cells j = some cs → S1.cells j = some cs := by
  have hv' : IsOut S v xs := by
    rcases hv with h | ⟨n, _, _, h1, h2⟩
    · exact .inl h
    · exact .inr ⟨n, h1, h2⟩
  obtain ⟨S1, h1, h2, h3, h4⟩ := append_out hE hh hv' hy hsh hw hw2 hne hs
  refine ⟨_, S1, h1, .inr ⟨S.next, hk, by omega, rfl, h2⟩, by omega, fun n hn => ?_, fun j cs hj hc => ?_⟩
  · rw [h4 n (by omega)]
    rintro rfl
    rcases hv with ⟨h, _⟩ | ⟨m, a1, a2, h, _⟩
    · cases h
    · cases h; omega
  · unfold St.cells at *
    rw [h4 j hj]
    · exact hc
    · rintro rfl
      rcases hv with ⟨h, _⟩ | ⟨m, a1, a2, h, h5⟩
      · cases h
      · cases h; rw [h5] at hc; cases hc
theorem mem_keeps {S S1 : St} {j : Nat} (h : S1.mem j = S.mem j) : S1.cells j = S.cells j := by unfold St.cells; rw [h]
theorem RSt.mems {S S1 : St} {rb c : Nat} {bs : List UInt8} {v : AV} {st : PSt} (h : RSt S rb c bs v st) (hn : S.next ≤ S1.next) (e1 : S1.mem c = S.mem c) (e2 : S1.mem rb = S.mem rb) : RSt S1 rb c bs v st := by
  obtain ⟨a1, a2, a3, a4, a5⟩ := h
  refine ⟨by omega, by omega, a3, a4, ?_⟩
  rw [mem_keeps e1, mem_keeps e2]; exact a5
theorem RSt.cellsK {S S1 : St} {rb c : Nat} {bs : List UInt8} {v : AV} {st : PSt} (h : RSt S rb c bs v st) (hn : S.next ≤ S1.next) (hk : ∀ j cs, j < S.next → S.cells j = some cs → S1.cells j = some cs) : RSt S1 rb c bs v st := by
  obtain ⟨⟨x, hx⟩, ⟨y, hy⟩⟩ := h.cc
  obtain ⟨a1, a2, a3, a4, a5⟩ := h
  refine ⟨by omega, by omega, a3, a4, ?_⟩
  rw [hk c x a1 hx, hk rb y a2 hy, ← hx, ← hy]; exact a5
/-- Short, as the reader's state has it. -/
theorem t29r (S : St) (rb c : Nat) (bs : List UInt8) (v : AV) (r : List UInt8) (hb : bs.length ≤ 2 ^ 47) (h : RSt S rb c bs v (.ok r)) :
    CallQ Tryd.prog LC 29 [.ptr c 0] S fun q S1 => q = .int .u64 (rdN (.ok r)).1 ∧ RSt S1 rb c bs v (rdN (.ok r)).2 ∧ But c rb S S1 := by
  obtain ⟨c1, c2, c3, c4, c5, c6, c7⟩ := h
  have hrl := c5.length_le
  refine CallQ.mono (t29 S c bs v (bs.length - r.length) c4 (by omega) hb c6 c1) ?_
  rintro _ S2 ⟨a', w, p, n, d1, rfl, d2, d3, d4⟩
  rw [suffix_drop c5] at d1
  have c7' : S2.cells rb = some [.ptr c 0, .int .i64 0, .int .i64 0] := by
    unfold St.cells at *; rw [d4 rb c2 (Ne.symm c3)]; exact c7
  have b2 : But c rb S S2 := ⟨d2, fun j h1 h2 h3 => d4 j h1 h2⟩
  cases hr : rdS r 0 0 with
  | error f =>
    obtain ⟨w0, k0⟩ := f
    obtain ⟨hw0, hk0⟩ := rdS_err _ _ _ _ _ hr
    rw [hr] at d1
    obtain ⟨rfl, rfl, rfl, rfl⟩ : bs.length - r.length = a' ∧ w0 = w ∧ bs.length - k0 = p ∧ 0 = n := by simpa [curS] using d1
    have hwi : rdN (.ok r) = (0, .error (w0, k0)) := by simp only [rdN, hr]
    rw [hwi]
    exact ⟨rfl, ⟨by omega, by omega, c3, c4, hw0, by omega, _, .inr ⟨d3, c7'⟩⟩, b2⟩
  | ok q =>
    obtain ⟨n0, r'⟩ := q
    obtain ⟨hl0, hs0⟩ := rdS_ok _ _ _ _ _ hr
    rw [hr] at d1
    obtain ⟨rfl, rfl, rfl, rfl⟩ : bs.length - r'.length = a' ∧ 0 = w ∧ 0 = p ∧ n0 = n := by simpa [curS] using d1
    have hwi : rdN (.ok r) = (n0, .ok r') := by simp only [rdN, hr]
    rw [hwi]
    exact ⟨rfl, ⟨by omega, by omega, c3, c4, hs0.trans c5, d3, c7'⟩, b2⟩
theorem within_le (lo hi e : Nat) (st : PSt) : (within lo hi e st).1 ≤ hi := by
  unfold within
  split
  · simp
  · split
    · simp
    · split
      · simp
      · simp only; omega
theorem rdN_lt : ∀ (l : List UInt8) (i n m : Nat) (r : List UInt8), rdS l i n = .ok (m, r) → m < 2 ^ 64
  | [], i, n, m, r, h => by simp [rdS] at h
  | x :: l, i, n, m, r, h => by
    unfold rdS at h
    split at h
    · cases h
    · split at h
      · cases h; omega
      · exact rdN_lt l _ _ m r h
end Go.Proofs.YtiknkngdfdmkbaaDoor
