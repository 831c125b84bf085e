import Derived.Test.YtmkmakokgfigoaaDoorVMON2
namespace Go.Proofs.YtmkmakokgfigoaaDoor
open Go.Proofs.YtmkmakokgfigoaaDoor.VM
set_option maxRecDepth 100000
set_option linter.unusedVariables false

abbrev TC : Cfg := NC true
theorem t18 (S : St) : CallQ Tryd.prog TC 18 [] S fun r S1 => S1 = S ∧ r = .bool true := CallQ.intr (g := aliveG) rfl rfl ⟨rfl, rfl⟩
inductive Sl where
  | nil
  | lst (t : Tip)
def slV : Sl → List AV → AV
  | .nil, _ => .nils
  | .lst t, xs => .lst xs t
/-- A node, and how its slices lie. -/
inductive Nd where
  | mk (kind : Int) (n : Nat) (neg : Bool) (dg : List UInt8) (ex : Int) (tx : List UInt8) (fb : Sl) (bs : List UInt8) (fk : Sl) (keys : List Nd) (fd : Sl) (kids : List Nd)
mutual
def Nd.v : Nd → AV
  | .mk kind n neg dg ex tx fb bs fk keys fd kids => .agg [.int .i64 kind, .int .u64 n, .bool neg, .str dg, .int .i64 ex, .str tx, slV fb (bs.map u8), slV fk (Nd.vs keys), slV fd (Nd.vs kids)]
def Nd.vs : List Nd → List AV
  | [] => []
  | x :: xs => x.v :: Nd.vs xs
end
theorem vs_map : ∀ xs : List Nd, Nd.vs xs = xs.map Nd.v
  | [] => rfl
  | x :: xs => by rw [Nd.vs, vs_map xs]; rfl
mutual
def Nd.Ok : Nd → Prop
  | .mk kind n neg dg ex tx fb bs fk keys fd kids => (fb = .nil → bs = []) ∧ (fk = .nil → keys = []) ∧ (fd = .nil → kids = []) ∧ bs.length ≤ 2 ^ 47 ∧ keys.length ≤ 2 ^ 47 ∧ kids.length ≤ 2 ^ 47 ∧ Nd.Oks keys ∧ Nd.Oks kids
def Nd.Oks : List Nd → Prop
  | [] => True
  | x :: xs => x.Ok ∧ Nd.Oks xs
end
theorem oks_iff : ∀ {xs : List Nd}, Nd.Oks xs ↔ ∀ x ∈ xs, x.Ok
  | [] => by simp [Nd.Oks]
  | x :: xs => by rw [Nd.Oks, oks_iff (xs := xs)]; simp
mutual
def cnt : Nd → Nat
  | .mk _ _ _ _ _ _ _ _ _ keys _ kids => 1 + cnts keys + cnts kids
def cnts : List Nd → Nat
  | [] => 0
  | x :: xs => cnt x + cnts xs
end
mutual
def dep : Nd → Nat
  | .mk _ _ _ _ _ _ _ _ _ keys _ kids => 1 + max (deps keys) (deps kids)
def deps : List Nd → Nat
  | [] => 0
  | x :: xs => max (dep x) (deps xs)
end
theorem cnts_take : ∀ (xs : List Nd) (i : Nat) (h : i < xs.length), cnts (xs.take (i + 1)) = cnts (xs.take i) + cnt xs[i]
  | x :: xs, 0, h => by simp [cnts]
  | x :: xs, i + 1, h => by
    have := cnts_take xs i (by simpa using h)
    simp only [List.take_succ_cons, cnts, List.getElem_cons_succ]
    omega
theorem deps_take : ∀ (xs : List Nd) (i : Nat) (h : i < xs.length), deps (xs.take (i + 1)) = max (deps (xs.take i)) (dep xs[i])
  | x :: xs, 0, h => by simp [deps]
  | x :: xs, i + 1, h => by
    have := deps_take xs i (by simpa using h)
    simp only [List.take_succ_cons, deps, List.getElem_cons_succ]
    omega
theorem cnts_le (xs : List Nd) (i : Nat) : cnts (xs.take i) ≤ cnts xs := by
  induction xs generalizing i with
  | nil => simp [cnts]
  | cons x xs ih =>
    cases i with
    | zero => simp [cnts]
    | succ i => have := ih i; simp only [List.take_succ_cons, cnts]; omega
theorem cnt_mem {xs : List Nd} {x : Nd} (h : x ∈ xs) : cnt x ≤ cnts xs := by
  induction xs with
  | nil => cases h
  | cons y xs ih =>
    rcases List.mem_cons.1 h with rfl | h
    · simp only [cnts]; omega
    · have := ih h; simp only [cnts]; omega
theorem cnt_pos : ∀ x : Nd, 1 ≤ cnt x
  | .mk .. => by simp only [cnt]; omega
theorem dep_pos : ∀ x : Nd, 1 ≤ dep x
  | .mk .. => by simp only [dep]; omega

/-- Everything but these two stays. -/
structure But (c rb : Nat) (S S1 : St) : Prop where
  next : S.next ≤ S1.next
  mem : ∀ j, j < S.next → j ≠ c → j ≠ rb → S1.mem j = S.mem j
theorem But.of {c rb : Nat} {S S1 : St} (h : Keep S S1) : But c rb S S1 := ⟨h.next, fun j hj _ _ => h.mem j hj⟩
theorem But.refl (c rb : Nat) (S : St) : But c rb S S := ⟨Nat.le_refl _, fun _ _ _ _ => rfl⟩
theorem But.trans {c rb : Nat} {S S1 S2 : St} (h : But c rb S S1) (k : But c rb S1 S2) : But c rb S S2 := ⟨Nat.le_trans h.next k.next, fun j hj h1 h2 => by rw [k.mem j (by have := h.next; omega) h1 h2, h.mem j hj h1 h2]⟩
theorem But.setl {c rb : Nat} {S S1 : St} (h : But c rb S S1) (b : Option Blk) : But c rb S (S1.set c b) := ⟨h.next, fun j hj h1 h2 => by show upd S1.mem c b j = _; simp only [upd, if_neg h1]; exact h.mem j hj h1 h2⟩
theorem But.setr {c rb : Nat} {S S1 : St} (h : But c rb S S1) (b : Option Blk) : But c rb S (S1.set rb b) := ⟨h.next, fun j hj h1 h2 => by show upd S1.mem rb b j = _; simp only [upd, if_neg h2]; exact h.mem j hj h1 h2⟩

theorem t41 (x : Nd) (S : St) (sz dp s p d : Nat) (h1 : S.cells sz = some [.int .i64 s]) (h2 : S.cells dp = some [.int .i64 p]) (hne : sz ≠ dp) (hs : s ≤ 2000) :
    CallQ Tryd.prog TC 41 [x.v, .int .i64 d, .ptr sz 0, .ptr dp 0] S fun r S1 => r = .bool (decide (s + 1 ≤ 1024)) ∧ S1.cells sz = some [.int .i64 (s + 1 : Nat)] ∧ S1.cells dp = some [.int .i64 (max p d : Nat)] ∧ But sz dp S S1 := by
  obtain ⟨kind, n, neg, dg, ex, tx, fb, bs, fk, keys, fd, kids⟩ := x
  refine CallQ.of rfl (by kernel_rfl : Tryd.prog.funcs[41]? = some Tryd.f41) rfl (by decide) ?_
  conv => whnf
  refine ⟨_, h1, ?_⟩
  conv => whnf
  refine ⟨_, _, h1, if_pos ⟨rfl, rfl, Nat.le_of_ble_eq_true rfl⟩, ?_⟩
  conv => whnf
  have h2' : ∀ b, (S.set sz b).cells dp = some [.int .i64 p] := fun b => cells_set_ne h2 (Ne.symm hne)
  refine ⟨_, h2' _, ?_⟩
  conv => whnf
  have e1 : IntKind.i64.wrap ((s : Int) + 1) = ((s + 1 : Nat) : Int) := by rw [wrap_i64 (by omega) (by omega)]; omega
  refine ⟨_, _, h2' _, if_pos ⟨rfl, rfl, Nat.le_of_ble_eq_true rfl⟩, ?_⟩
  conv => whnf
  have hz : ∀ b c, ((S.set sz (some (.cells b))).set dp c).cells sz = some b := fun b c => cells_set_ne (cells_set _ _ _) hne
  refine ⟨_, hz _ _, ?_⟩
  conv => whnf
  intro b hb
  conv => whnf
  refine ⟨?_, ?_, ?_, ((But.refl _ _ _).setl _).setr _⟩
  · show AV.bool b = _
    rw [hb, e1]
    congr 1
    rw [decide_eq_decide]
    omega
  · rw [hz, e1]; rfl
  · rw [cells_set]
    show some [AV.int .i64 (if (d : Int) > p then (d : Int) else p)] = some [.int .i64 ((max p d : Nat) : Int)]
    have : (if (d : Int) > p then (d : Int) else p) = ((max p d : Nat) : Int) := by split <;> omega
    rw [this]
end Go.Proofs.YtmkmakokgfigoaaDoor
