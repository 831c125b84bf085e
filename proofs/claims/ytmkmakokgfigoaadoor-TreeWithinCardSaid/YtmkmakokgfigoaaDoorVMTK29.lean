import Derived.Test.YtmkmakokgfigoaaDoorVMT26
namespace Go.Proofs.YtmkmakokgfigoaaDoor
open Go.Proofs.YtmkmakokgfigoaaDoor.VM Go.RowKit
set_option maxRecDepth 100000
set_option linter.unusedVariables false
set_option linter.unusedSimpArgs false
set_option maxHeartbeats 4000000
/-! tree.Check: a node alone. -/
theorem t55 (neg : Bool) (ds : List UInt8) (e : Int) (hl : ds.length ≤ 2 ^ 47) (S : St) : CallQ Tryd.prog TC 55 [numV neg ds e] S fun r S1 => Keep S S1 ∧ r = .tuple [.str (if wholeN neg ds e = true then ds ++ List.replicate e.toNat 48 else []), .bool (wholeN neg ds e)] := by
  have hw : wholeN neg ds e = (rightN neg ds e && decide (0 ≤ e) && decide (e ≤ 800 - ds.length)) := rfl
  have hR := t56 true neg ds e hl S
  generalize wholeN neg ds e = w at *
  generalize rightN neg ds e = rr at *
  refine CallQ.of rfl (by kernel_rfl : Tryd.prog.funcs[55]? = some Tryd.f55) rfl (by decide) ?_
  conv => whnf
  refine CallQ.mono hR ?_
  rintro r S1 ⟨k1, rfl⟩
  cases rr
  · subst hw
    conv => whnf
    exact ⟨k1, rfl⟩
  conv => whnf
  refine br (fun h1 => ?_) (fun h1 => ?_)
  · conv => whnf
    have : w = false := by rw [hw, decide_eq_false (show ¬ 0 ≤ e by omega)]; rfl
    subst this
    exact ⟨k1, rfl⟩
  conv => whnf
  have e8 : IntKind.i64.wrap ((800 : Int) - (ds.length : Int)) = 800 - ds.length := wrap_i64 (by omega) (by omega)
  refine br (fun h2 => ?_) (fun h2 => ?_)
  · have h2 : e > IntKind.i64.wrap ((800 : Int) - (ds.length : Int)) := h2
    rw [e8] at h2
    conv => whnf
    have : w = false := by rw [hw, decide_eq_false (show ¬ e ≤ 800 - ds.length by omega)]; simp
    subst this
    exact ⟨k1, rfl⟩
  have h2 : ¬ e > IntKind.i64.wrap ((800 : Int) - (ds.length : Int)) := h2
  rw [e8] at h2
  have : w = true := by rw [hw, decide_eq_true (show e ≤ 800 - ds.length by omega), decide_eq_true (show 0 ≤ e by omega)]; rfl
  subst this
  conv => whnf
  refine ⟨[0, 1, 2, 3, 4, 5, 6, 7], [(4, [1])], by kernel_rfl, by kernel_rfl, by kernel_rfl, ?_⟩
  conv => whnf
  refine CallQ.intr (g := repG repMax) rfl (if_pos ⟨rfl, by omega, by show e < 801; omega⟩) ?_
  conv => whnf
  refine ⟨⟨_, rfl, .inr ⟨_, _, _, rfl, rfl, rfl, rfl⟩⟩, ?_⟩
  conv => whnf
  refine ⟨show ds.length + (List.replicate e.toNat 48).length ≤ 140737488355328 by rw [List.length_replicate]; omega, ?_⟩
  conv => whnf
  exact ⟨k1, rfl⟩
/-- A node without what its Kind has. -/
def plN : Nd → Nd
  | .mk kind n neg dg ex tx fb bs fk keys fd kids =>
    .mk kind (if kind = 1 ∨ kind = 4 ∨ kind = 10 ∨ kind = 9 then 0 else n) (if kind = 2 ∨ kind = 3 then false else neg) (if kind = 2 ∨ kind = 3 then [] else dg) (if kind = 3 then 0 else ex) (if kind = 5 then [] else tx)
      (if kind = 6 then .nil else fb) (if kind = 6 then [] else bs) (if kind = 8 then .nil else fk) (if kind = 8 then [] else keys) (if kind = 7 ∨ kind = 8 ∨ kind = 9 then .nil else fd) (if kind = 7 ∨ kind = 8 ∨ kind = 9 then [] else kids)
theorem kinds (k : Int) : k = 0 ∨ k = 1 ∨ k = 2 ∨ k = 3 ∨ k = 4 ∨ k = 5 ∨ k = 6 ∨ k = 7 ∨ k = 8 ∨ k = 9 ∨ k = 10 ∨ (k < 0 ∨ 10 < k) := by omega
theorem plN_out {kind : Int} (hk : kind < 0 ∨ 10 < kind) (n : Nat) (neg : Bool) (dg : List UInt8) (ex : Int) (tx : List UInt8) (fb : Sl) (bs : List UInt8) (fk : Sl) (keys : List Nd) (fd : Sl) (kids : List Nd) :
    plN (.mk kind n neg dg ex tx fb bs fk keys fd kids) = .mk kind n neg dg ex tx fb bs fk keys fd kids := by
  show Nd.mk _ _ _ _ _ _ _ _ _ _ _ _ = _
  rw [if_neg (by omega), if_neg (by omega), if_neg (by omega), if_neg (by omega), if_neg (by omega), if_neg (by omega), if_neg (by omega), if_neg (by omega), if_neg (by omega), if_neg (by omega), if_neg (by omega)]
theorem agg_load {S : St} {p : Nat} {cs : List AV} (h : S.cells p = some cs) (hl : cs.length = 9) : loadA Tryd.prog S 26 (.ptr p 0) = some (.agg cs) := by
  have : loadA Tryd.prog S 26 (.ptr p 0) = (S.cells p).bind fun cs => if 0 + 9 ≤ cs.length then some (.agg ((cs.drop 0).take 9)) else none := by rfl
  rw [this, h]
  show (if 0 + 9 ≤ cs.length then some (AV.agg ((cs.drop 0).take 9)) else none) = _
  rw [if_pos (by omega), List.drop_zero, List.take_of_length_le (by omega)]
theorem t50 (x : Nd) (S : St) : CallQ Tryd.prog TC 50 [x.v] S fun r S1 => r = (plN x).lo.v ∧ Keep S S1 := by
  obtain ⟨kind, n, neg, dg, ex, tx, fb, bs, fk, keys, fd, kids⟩ := x
  rcases kinds kind with rfl | rfl | rfl | rfl | rfl | rfl | rfl | rfl | rfl | rfl | rfl | hk
  rotate_right
  · rw [plN_out hk]
    refine CallQ.of rfl (by kernel_rfl : Tryd.prog.funcs[50]? = some Tryd.f50) rfl (by decide) ?_
    conv => whnf
    have hdn : ∀ b, (S.new b).next = S.next + 1 := fun _ => rfl
    rw [hdn]
    generalize hS1 : (S.new _).new _ = S1
    have k1 : Keep S S1 := by rw [← hS1]; exact ((Keep.refl S).new _).new _
    have n1 : S1.next = S.next + 2 := by rw [← hS1]; rfl
    have a1 := (congrArg (fun s => s.cells S.next) hS1).symm.trans (cells_new_ne (cells_new _ _) (by show S.next ≠ S.next + 1; omega))
    have a2 := (congrArg (fun s => s.cells (S.next + 1)) hS1).symm.trans (cells_new _ _)
    clear hS1
    refine ⟨_, a1, ?_⟩
    conv => whnf
    repeat
      refine brEq (fun h => ?_) (fun h => ?_) <;> first | (exfalso; omega) | (clear h; conv => whnf)
    repeat
      (first
        | refine ⟨_, _, a1, if_pos ⟨rfl, rfl, Nat.le_of_ble_eq_true rfl⟩, ?_⟩
        | refine ⟨_, _, cells_set _ _ _, if_pos ⟨rfl, rfl, Nat.le_of_ble_eq_true rfl⟩, ?_⟩)
      conv => whnf
    first
      | refine ⟨_, a1, ?_⟩
      | refine ⟨_, cells_set _ _ _, ?_⟩
    conv => whnf
    first
      | refine ⟨_, _, a2, store_agg rfl rfl (by first | exact nd_leaf .. | (cases fb <;> cases fk <;> cases fd <;> rfl)), ?_⟩
      | refine ⟨_, _, cells_set_ne a2 (by omega), store_agg rfl rfl (by first | exact nd_leaf .. | (cases fb <;> cases fk <;> cases fd <;> rfl)), ?_⟩
      | refine ⟨_, _, cells_set_ne (cells_set_ne a2 (by omega)) (by omega), store_agg rfl rfl (by first | exact nd_leaf .. | (cases fb <;> cases fk <;> cases fd <;> rfl)), ?_⟩
      | refine ⟨_, _, cells_set_ne (cells_set_ne (cells_set_ne a2 (by omega)) (by omega)) (by omega), store_agg rfl rfl (by first | exact nd_leaf .. | (cases fb <;> cases fk <;> cases fd <;> rfl)), ?_⟩
    conv => whnf
    refine ⟨_, agg_load (cells_set _ _ _) rfl, ?_⟩
    conv => whnf
    refine ⟨?_, by
      first
        | exact k1.set _ _ (by omega)
        | exact (k1.set _ _ (by omega)).set _ _ (by omega)
        | exact ((k1.set _ _ (by omega)).set _ _ (by omega)).set _ _ (by omega)
        | exact (((k1.set _ _ (by omega)).set _ _ (by omega)).set _ _ (by omega)).set _ _ (by omega)⟩
    cases fb <;> cases fk <;> cases fd <;> rfl
  all_goals
    refine CallQ.of rfl (by kernel_rfl : Tryd.prog.funcs[50]? = some Tryd.f50) rfl (by decide) ?_
    conv => whnf
    have hdn : ∀ b, (S.new b).next = S.next + 1 := fun _ => rfl
    rw [hdn]
    generalize hS1 : (S.new _).new _ = S1
    have k1 : Keep S S1 := by rw [← hS1]; exact ((Keep.refl S).new _).new _
    have n1 : S1.next = S.next + 2 := by rw [← hS1]; rfl
    have a1 := (congrArg (fun s => s.cells S.next) hS1).symm.trans (cells_new_ne (cells_new _ _) (by show S.next ≠ S.next + 1; omega))
    have a2 := (congrArg (fun s => s.cells (S.next + 1)) hS1).symm.trans (cells_new _ _)
    clear hS1
    refine ⟨_, a1, ?_⟩
    conv => whnf
    repeat
      refine brEq (fun h => ?_) (fun h => ?_) <;> first | (exfalso; omega) | (clear h; conv => whnf)
    repeat
      (first
        | refine ⟨_, _, a1, if_pos ⟨rfl, rfl, Nat.le_of_ble_eq_true rfl⟩, ?_⟩
        | refine ⟨_, _, cells_set _ _ _, if_pos ⟨rfl, rfl, Nat.le_of_ble_eq_true rfl⟩, ?_⟩)
      conv => whnf
    first
      | refine ⟨_, a1, ?_⟩
      | refine ⟨_, cells_set _ _ _, ?_⟩
    conv => whnf
    first
      | refine ⟨_, _, a2, store_agg rfl rfl (by first | exact nd_leaf .. | (cases fb <;> cases fk <;> cases fd <;> rfl)), ?_⟩
      | refine ⟨_, _, cells_set_ne a2 (by omega), store_agg rfl rfl (by first | exact nd_leaf .. | (cases fb <;> cases fk <;> cases fd <;> rfl)), ?_⟩
      | refine ⟨_, _, cells_set_ne (cells_set_ne a2 (by omega)) (by omega), store_agg rfl rfl (by first | exact nd_leaf .. | (cases fb <;> cases fk <;> cases fd <;> rfl)), ?_⟩
      | refine ⟨_, _, cells_set_ne (cells_set_ne (cells_set_ne a2 (by omega)) (by omega)) (by omega), store_agg rfl rfl (by first | exact nd_leaf .. | (cases fb <;> cases fk <;> cases fd <;> rfl)), ?_⟩
    conv => whnf
    refine ⟨_, agg_load (cells_set _ _ _) rfl, ?_⟩
    conv => whnf
    refine ⟨?_, by
      first
        | exact k1.set _ _ (by omega)
        | exact (k1.set _ _ (by omega)).set _ _ (by omega)
        | exact ((k1.set _ _ (by omega)).set _ _ (by omega)).set _ _ (by omega)
        | exact (((k1.set _ _ (by omega)).set _ _ (by omega)).set _ _ (by omega)).set _ _ (by omega)⟩
    cases fb <;> cases fk <;> cases fd <;> rfl
end Go.Proofs.YtmkmakokgfigoaaDoor
namespace Go.Proofs.YtmkmakokgfigoaaDoor
open Go.Proofs.YtmkmakokgfigoaaDoor.VM Go.RowKit
set_option maxRecDepth 100000
set_option linter.unusedVariables false
set_option linter.unusedSimpArgs false
set_option maxHeartbeats 4000000
def emptyE (n : Nat) (neg : Bool) (dg : List UInt8) (ex : Int) (tx : List UInt8) (nb nk nd : Nat) : Bool := decide (n = 0 ∧ neg = false ∧ dg = [] ∧ ex = 0 ∧ tx = [] ∧ nb + nk + nd = 0)
def emptyN : Nd → Bool
  | .mk _ n neg dg ex tx _ bs _ keys _ kids => emptyE n neg dg ex tx bs.length keys.length kids.length
theorem t49 (x : Nd) (hx : x.Ok) (S : St) : CallQ Tryd.prog TC 49 [x.v] S fun r S1 => S1 = S ∧ r = .bool (emptyN x) := by
  obtain ⟨kind, n, neg, dg, ex, tx, fb, bs, fk, keys, fd, kids⟩ := x
  obtain ⟨x1, x2, x3, x4, x5, x6, _, _⟩ := hx
  have hE : emptyN (.mk kind n neg dg ex tx fb bs fk keys fd kids) = emptyE n neg dg ex tx bs.length keys.length kids.length := rfl
  rw [hE]
  have fls : ¬ (n = 0 ∧ neg = false ∧ dg = [] ∧ ex = 0 ∧ tx = [] ∧ bs.length + keys.length + kids.length = 0) → AV.bool false = .bool (emptyE n neg dg ex tx bs.length keys.length kids.length) := fun h => by unfold emptyE; rw [decide_eq_false h]
  have tru : (n = 0 ∧ neg = false ∧ dg = [] ∧ ex = 0 ∧ tx = [] ∧ bs.length + keys.length + kids.length = 0) → AV.bool true = .bool (emptyE n neg dg ex tx bs.length keys.length kids.length) := fun h => by unfold emptyE; rw [decide_eq_true h]
  generalize emptyE n neg dg ex tx bs.length keys.length kids.length = em at *
  refine CallQ.of rfl (by kernel_rfl : Tryd.prog.funcs[49]? = some Tryd.f49) rfl (by decide) ?_
  conv => whnf
  refine brEq (fun h1 => ?_) (fun h1 => ?_)
  rotate_left
  · conv => whnf
    exact ⟨rfl, fls (fun q => h1 (by omega))⟩
  cases neg
  rotate_left
  · conv => whnf
    exact ⟨rfl, fls (fun q => Bool.noConfusion q.2.1)⟩
  conv => whnf
  refine brSEq (fun h2 => ?_) (fun h2 => ?_)
  rotate_left
  · conv => whnf
    exact ⟨rfl, fls (fun q => h2 q.2.2.1)⟩
  conv => whnf
  refine brEq (fun h3 => ?_) (fun h3 => ?_)
  rotate_left
  · conv => whnf
    exact ⟨rfl, fls (fun q => h3 q.2.2.2.1)⟩
  conv => whnf
  refine brSEq (fun h4 => ?_) (fun h4 => ?_)
  rotate_left
  · conv => whnf
    exact ⟨rfl, fls (fun q => h4 q.2.2.2.2.1)⟩
  have fls2 : ¬ bs.length + keys.length + kids.length = 0 → AV.bool false = .bool em := fun h => fls (fun q => h q.2.2.2.2.2)
  have tru2 : bs.length + keys.length + kids.length = 0 → AV.bool true = .bool em := fun h => tru ⟨by omega, rfl, h2, h3, h4, h⟩
  clear fls tru hE
  have hw : ∀ a b c : Nat, a ≤ 2 ^ 47 → b ≤ 2 ^ 47 → c ≤ 2 ^ 47 → IntKind.i64.wrap (IntKind.i64.wrap ((a : Int) + b) + c) = ((a + b + c : Nat) : Int) := fun a b c h1 h2 h3 => by
    rw [wrap_i64 (x := (a : Int) + b) (by omega) (by omega), wrap_i64 (by omega) (by omega)]; omega
  have fin : ∀ (a b c : Nat) (K : Bool → Prop), a = bs.length → b = keys.length → c = kids.length → (AV.bool true = .bool em → K true) → (AV.bool false = .bool em → K false) → ∀ q, q = (IntKind.i64.wrap (IntKind.i64.wrap ((a : Int) + b) + c) == 0) → K q := by
    intro a b c K ha hb hc k1 k2
    rw [hw a b c (by omega) (by omega) (by omega)]
    exact brEq (fun h => k1 (tru2 (by omega))) (fun h => k2 (fls2 (by omega)))
  cases fb <;> cases fk <;> cases fd
  all_goals
    conv => whnf
    first
      | refine fin (bs.map u8).length (Nd.vs keys).length (Nd.vs kids).length _ (by simp) (vs_len _) (vs_len _) (fun h => ?_) (fun h => ?_)
      | refine fin 0 (Nd.vs keys).length (Nd.vs kids).length _ (by rw [x1 rfl]; rfl) (vs_len _) (vs_len _) (fun h => ?_) (fun h => ?_)
      | refine fin (bs.map u8).length 0 (Nd.vs kids).length _ (by simp) (by rw [x2 rfl]; rfl) (vs_len _) (fun h => ?_) (fun h => ?_)
      | refine fin (bs.map u8).length (Nd.vs keys).length 0 _ (by simp) (vs_len _) (by rw [x3 rfl]; rfl) (fun h => ?_) (fun h => ?_)
      | refine fin 0 0 (Nd.vs kids).length _ (by rw [x1 rfl]; rfl) (by rw [x2 rfl]; rfl) (vs_len _) (fun h => ?_) (fun h => ?_)
      | refine fin (bs.map u8).length 0 0 _ (by simp) (by rw [x2 rfl]; rfl) (by rw [x3 rfl]; rfl) (fun h => ?_) (fun h => ?_)
      | refine fin 0 (Nd.vs keys).length 0 _ (by rw [x1 rfl]; rfl) (vs_len _) (by rw [x3 rfl]; rfl) (fun h => ?_) (fun h => ?_)
      | refine fin 0 0 0 _ (by rw [x1 rfl]; rfl) (by rw [x2 rfl]; rfl) (by rw [x3 rfl]; rfl) (fun h => ?_) (fun h => ?_)
    all_goals
      conv => whnf
      exact ⟨rfl, h⟩
theorem plN_ok {x : Nd} (hx : x.Ok) : (plN x).lo.Ok := by
  obtain ⟨kind, n, neg, dg, ex, tx, fb, bs, fk, keys, fd, kids⟩ := x
  refine lo_ok ?_
  obtain ⟨x1, x2, x3, x4, x5, x6, x7, x8⟩ := hx
  refine ⟨?_, ?_, ?_, ?_, ?_, ?_, ?_, ?_⟩ <;> split <;> first | assumption | (intro _; rfl) | (simp; done) | trivial
theorem bare_eq (kind : Int) (n : Nat) (neg : Bool) (dg : List UInt8) (ex : Int) (tx : List UInt8) (fb : Sl) (bs : List UInt8) (fk : Sl) (keys : List Nd) (fd : Sl) (kids : List Nd) :
    emptyN (plN (.mk kind n neg dg ex tx fb bs fk keys fd kids)).lo = bareE kind n neg dg ex tx bs.length keys.length kids.length := by
  have h : emptyN (plN (.mk kind n neg dg ex tx fb bs fk keys fd kids)).lo = emptyE (if kind = 1 ∨ kind = 4 ∨ kind = 10 ∨ kind = 9 then 0 else n) (if kind = 2 ∨ kind = 3 then false else neg) (if kind = 2 ∨ kind = 3 then [] else dg) (if kind = 3 then 0 else ex) (if kind = 5 then [] else tx)
    (if kind = 6 then [] else bs).length (if kind = 8 then [] else keys).length (if kind = 7 ∨ kind = 8 ∨ kind = 9 then [] else kids).length := rfl
  rw [h]
  unfold emptyE bareE
  rcases kinds kind with rfl | rfl | rfl | rfl | rfl | rfl | rfl | rfl | rfl | rfl | rfl | hk
  rotate_right
  · rw [if_neg (by omega), if_neg (by omega), if_neg (by omega), if_neg (by omega), if_neg (by omega), if_neg (by omega), if_neg (by omega), if_neg (by omega), decide_eq_decide]
    constructor
    · rintro ⟨a1, a2, a3, a4, a5, a6⟩
      exact ⟨.inl a1, .inl ⟨a2, a3⟩, .inl a4, .inl a5, .inl (by omega), .inl (by omega), .inl (by omega)⟩
    · rintro ⟨a1, a2, a3, a4, a5, a6, a7⟩
      have b2 : neg = false ∧ dg = [] := by rcases a2 with h | h; exact h; omega
      have b4 : tx = [] := by rcases a4 with h | h; exact h; omega
      exact ⟨by omega, b2.1, b2.2, by omega, b4, by omega⟩
  all_goals simp [and_assoc]
end Go.Proofs.YtmkmakokgfigoaaDoor
namespace Go.Proofs.YtmkmakokgfigoaaDoor
open Go.Proofs.YtmkmakokgfigoaaDoor.VM Go.RowKit
set_option maxRecDepth 100000
set_option linter.unusedVariables false
set_option linter.unusedSimpArgs false
set_option maxHeartbeats 4000000
theorem eqFlt (a b : Int) : eqF Tryd.prog 67 (.agg [.int .i64 a, .int .i64 b]) (.agg [ofLeaf (Value.int IntKind.i64 0), ofLeaf (Value.int IntKind.i64 0)]) = some ((a == 0) && ((b == 0) && true)) := by kernel_rfl
theorem tel_ok (tx : List UInt8) : (((telS (ib tx) 0).1 == 0) && (((telS (ib tx) 0).2 == 0) && true)) = utfOk tx := by
  have h := runF_place (ib_byt tx)
  unfold telS utfOk
  rw [List.drop_zero]
  by_cases h2 : (runF (ib tx)).2 < 0
  · rw [if_pos h2, decide_eq_true h2]; rfl
  · rw [if_neg h2, decide_eq_false h2]; rfl
theorem t48 (x : Nd) (hx : x.Ok) (hb : Sb (er x)) (S : St) : CallQ Tryd.prog TC 48 [x.v] S fun r S1 => Keep S S1 ∧ ∀ kind n neg dg ex tx fb bs fk keys fd kids, x = .mk kind n neg dg ex tx fb bs fk keys fd kids → r = .int .i64 (firstE kind neg dg ex tx bs.length) := by
  obtain ⟨kind, n, neg, dg, ex, tx, fb, bs, fk, keys, fd, kids⟩ := x
  simp only [er, Sb] at hb
  obtain ⟨hdg, htx, _, _⟩ := hb
  obtain ⟨x1, x2, x3, x4, x5, x6, _, _⟩ := hx
  refine CallQ.mono (Q := fun r S1 => Keep S S1 ∧ r = .int .i64 (firstE kind neg dg ex tx bs.length)) ?_ (fun r S1 h => ⟨h.1, fun kind' n' neg' dg' ex' tx' fb' bs' fk' keys' fd' kids' q => by cases q; exact h.2⟩)
  have hW := t55 neg dg ex hdg
  have hR := t56 true neg dg ex hdg
  have hN := t54 true dg hdg
  have hU := t53 true tx htx (.lst (tx.map u8) .lost) (.inr ⟨_, rfl⟩)
  have hT := tel_ok tx
  have hF : firstE kind neg dg ex tx bs.length = (if kind = 5 then (if 4096 < tx.length then 8 else if utfOk tx = true then 0 else 6)
    else if kind = 6 then (if 4096 < bs.length then 8 else 0)
    else if kind = 2 then (if rightS dg = true ∧ ¬ (neg = true ∧ dg = [48]) then 0 else 11)
    else if kind = 3 then (if wholeN neg dg ex = true ∨ rightN neg dg ex = false then 11 else 0)
    else 0) := rfl
  generalize firstE kind neg dg ex tx bs.length = fe at *
  generalize wholeN neg dg ex = wn at *
  generalize rightN neg dg ex = rn at *
  generalize rightS dg = rs at *
  generalize utfOk tx = uo at *
  generalize telS (ib tx) 0 = tl at *
  have hdn : ∀ b, (S.new b).next = S.next + 1 := fun _ => rfl
  rcases kinds kind with rfl | rfl | rfl | rfl | rfl | rfl | rfl | rfl | rfl | rfl | rfl | hk
  -- 0, 1, 4, 7 .. 10, none
  rotate_left 2
  · -- Int
    rw [if_neg (by decide), if_neg (by decide), if_pos rfl] at hF
    refine CallQ.of rfl (by kernel_rfl : Tryd.prog.funcs[48]? = some Tryd.f48) rfl (by decide) ?_
    conv => whnf
    refine ⟨_, _, cells_new _ _, store_agg rfl rfl rfl, ?_⟩
    conv => whnf
    iterate 3 (refine brEq (fun h => ?_) (fun h => ?_) <;> first | (exfalso; omega) | (clear h; conv => whnf))
    generalize hS1 : (S.new _).set S.next _ = S1
    have k1 : Keep S S1 := by rw [← hS1]; exact ((Keep.refl S).new _).set _ _ (Nat.le_refl _)
    refine CallQ.mono (hN S1) ?_
    rintro r S2 ⟨k2, rfl⟩
    cases rs
    · subst hF
      conv => whnf
      exact ⟨k1.trans k2, rfl⟩
    cases neg
    · subst hF
      conv => whnf
      exact ⟨k1.trans k2, rfl⟩
    conv => whnf
    refine brSEq (fun h => ?_) (fun h => ?_)
    · have h : dg = [48] := h
      rw [if_neg (by simp [h])] at hF
      subst hF
      conv => whnf
      exact ⟨k1.trans k2, rfl⟩
    · have h : dg ≠ [48] := h
      rw [if_pos (by simp [h])] at hF
      subst hF
      conv => whnf
      exact ⟨k1.trans k2, rfl⟩
  · -- Dec
    rw [if_neg (by decide), if_neg (by decide), if_neg (by decide), if_pos rfl] at hF
    refine CallQ.of rfl (by kernel_rfl : Tryd.prog.funcs[48]? = some Tryd.f48) rfl (by decide) ?_
    conv => whnf
    refine ⟨_, _, cells_new _ _, store_agg rfl rfl rfl, ?_⟩
    conv => whnf
    iterate 4 (refine brEq (fun h => ?_) (fun h => ?_) <;> first | (exfalso; omega) | (clear h; conv => whnf))
    generalize hS1 : (S.new _).set S.next _ = S1
    have k1 : Keep S S1 := by rw [← hS1]; exact ((Keep.refl S).new _).set _ _ (Nat.le_refl _)
    have n1 : S1.next = S.next + 1 := by rw [← hS1]; rfl
    have a1 := (congrArg (fun s => s.cells S.next) hS1).symm.trans (cells_set _ _ _)
    refine ⟨_, a1, ?_⟩
    conv => whnf
    refine CallQ.mono (hW S1) ?_
    rintro r S2 ⟨k2, rfl⟩
    have a2 := (cells_keep k2 (j := S.next) (by omega)).trans a1
    cases wn
    rotate_left
    · subst hF
      conv => whnf
      exact ⟨k1.trans k2, rfl⟩
    conv => whnf
    refine ⟨_, a2, ?_⟩
    conv => whnf
    refine CallQ.mono (hR S2) ?_
    rintro r S3 ⟨k3, rfl⟩
    cases rn
    all_goals
      subst hF
      conv => whnf
      exact ⟨(k1.trans k2).trans k3, rfl⟩
  rotate_left 1
  · -- Text
    rw [if_pos rfl] at hF
    refine CallQ.of rfl (by kernel_rfl : Tryd.prog.funcs[48]? = some Tryd.f48) rfl (by decide) ?_
    conv => whnf
    refine ⟨_, _, cells_new _ _, store_agg rfl rfl rfl, ?_⟩
    conv => whnf
    iterate 1 (refine brEq (fun h => ?_) (fun h => ?_) <;> first | (exfalso; omega) | (clear h; conv => whnf))
    generalize hS1 : (S.new _).set S.next _ = S1
    have k1 : Keep S S1 := by rw [← hS1]; exact ((Keep.refl S).new _).set _ _ (Nat.le_refl _)
    refine br (fun h => ?_) (fun h => ?_)
    · rw [if_pos (by omega)] at hF
      subst hF
      conv => whnf
      exact ⟨k1, rfl⟩
    rw [if_neg (by omega)] at hF
    conv => whnf
    refine CallQ.mono (hU S1) ?_
    rintro r S2 ⟨k2, rfl⟩
    unfold faultV
    conv => whnf
    rw [eqFlt, hT]
    conv => whnf
    rintro c rfl
    cases uo
    all_goals
      subst hF
      conv => whnf
      exact ⟨k1.trans k2, rfl⟩
  · -- Bytes
    rw [if_neg (by decide), if_pos rfl] at hF
    have hfin : ∀ S1, Keep S S1 → ∀ (l : Nat) (K : Bool → Prop), l = bs.length → (fe = 8 → K true) → (fe = 0 → K false) → ∀ c, c = decide ((l : Int) > 4096) → K c := by
      intro S1 k1 l K hl k2 k3
      refine br (fun h => k2 ?_) (fun h => k3 ?_)
      · rw [hF, if_pos (by omega)]
      · rw [hF, if_neg (by omega)]
    rcases fb with _ | tb
    all_goals
      refine CallQ.of rfl (by kernel_rfl : Tryd.prog.funcs[48]? = some Tryd.f48) rfl (by decide) ?_
      conv => whnf
      refine ⟨_, _, cells_new _ _, store_agg rfl rfl rfl, ?_⟩
      conv => whnf
      iterate 2 (refine brEq (fun h => ?_) (fun h => ?_) <;> first | (exfalso; omega) | (clear h; conv => whnf))
      generalize hS1 : (S.new _).set S.next _ = S1
      have k1 : Keep S S1 := by rw [← hS1]; exact ((Keep.refl S).new _).set _ _ (Nat.le_refl _)
      first
        | refine hfin S1 k1 0 _ (by rw [x1 rfl]; rfl) (fun h => ?_) (fun h => ?_)
        | refine hfin S1 k1 (bs.map u8).length _ (by simp) (fun h => ?_) (fun h => ?_)
      all_goals
        subst h
        conv => whnf
        exact ⟨k1, rfl⟩
  all_goals
    have hF : fe = 0 := by rw [hF]; rw [if_neg (by omega), if_neg (by omega), if_neg (by omega), if_neg (by omega)]
    subst hF
    refine CallQ.of rfl (by kernel_rfl : Tryd.prog.funcs[48]? = some Tryd.f48) rfl (by decide) ?_
    conv => whnf
    refine ⟨_, _, cells_new _ _, store_agg rfl rfl rfl, ?_⟩
    conv => whnf
    iterate 4 (refine brEq (fun h => ?_) (fun h => ?_) <;> first | (exfalso; omega) | (clear h; conv => whnf))
    exact ⟨((Keep.refl S).new _).set _ _ (Nat.le_refl _), rfl⟩
end Go.Proofs.YtmkmakokgfigoaaDoor
