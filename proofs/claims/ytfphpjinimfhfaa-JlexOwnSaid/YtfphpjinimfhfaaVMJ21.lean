import Derived.Test.YtfphpjinimfhfaaVMJ20
namespace Go.Proofs.Ytfphpjinimfhfaa
open Go.Proofs.Ytfphpjinimfhfaa.VM Go.RowKit
set_option linter.unusedVariables false
/-! ### how far the lexer has looked -/
/-- Where it stands, or where it went wrong. -/
def Lx.fr (x : Lx) : Int := if x.well = true then x.at_ else x.f
theorem fr_well {x : Lx} (h : x.well = true) : x.fr = x.at_ := by unfold Lx.fr; rw [if_pos h]
theorem fr_bad {x : Lx} (h : x.well = false) : x.fr = x.f := by unfold Lx.fr; rw [if_neg (by rw [h]; decide)]
/-- Two texts of one beginning: up to and with this byte. -/
structure Agr (F : Int) (a b : List UInt8) : Prop where
  la : F < a.length
  lb : F < b.length
  eq : a.take (F.toNat + 1) = b.take (F.toNat + 1)
theorem Agr.at_ {F : Int} {a b : List UInt8} (h : Agr F a b) {i : Nat} (hi : (i : Int) ≤ F) : b[i]? = a[i]? := by
  have := congrArg (fun l => l[i]?) h.eq
  simp only [List.getElem?_take] at this
  rw [if_pos (by omega), if_pos (by omega)] at this
  exact this.symm
theorem Agr.get {F : Int} {a b : List UInt8} (h : Agr F a b) {i : Nat} (hi : (i : Int) ≤ F) : b.getD i 0 = a.getD i 0 := by
  rw [List.getD_eq_getElem?_getD, List.getD_eq_getElem?_getD, h.at_ hi]
theorem Agr.cut {F : Int} {a b : List UInt8} (h : Agr F a b) {p k : Nat} (hk : (p + k : Int) ≤ F + 1) : ((ib b).drop p).take k = ((ib a).drop p).take k := by
  rcases Nat.eq_zero_or_pos k with rfl | hk0
  · simp
  have e : ((b.take (F.toNat + 1)).drop p).take k = ((a.take (F.toNat + 1)).drop p).take k := by rw [h.eq]
  rw [List.drop_take, List.drop_take, List.take_take, List.take_take, Nat.min_eq_left (by omega)] at e
  rw [← ib_drop, ← ib_drop, ← ib_take, ← ib_take, e]
structure Ok (bs : List UInt8) (x : Lx) : Prop where
  at_ : x.at_ ≤ bs.length
  fr : x.fr ≤ bs.length
/-- What comes out looks no less far than it began, and hangs on what it looked at alone. -/
structure Gd {α : Type} (pr : α → Lx) (s : Int) (op : List UInt8 → α) (bs : List UInt8) : Prop where
  ok : Ok bs (pr (op bs))
  ge : s ≤ (pr (op bs)).fr
  cut : ∀ F b2, Agr F bs b2 → (pr (op bs)).fr ≤ F → op b2 = op bs
theorem Gd.bind {α β : Type} {pr : α → Lx} {qr : β → Lx} {s : Int} {op : List UInt8 → α} {bs : List UInt8} {g : List UInt8 → α → β}
    (h : Gd pr s op bs) (k : Gd qr (pr (op bs)).fr (fun b => g b (op bs)) bs) : Gd qr s (fun b => g b (op b)) bs :=
  ⟨k.ok, Int.le_trans h.ge k.ge, fun F b2 ha hf => by
    show g b2 (op b2) = g bs (op bs)
    rw [h.cut F b2 ha (Int.le_trans k.ge hf)]
    exact k.cut F b2 ha hf⟩
theorem Gd.ite {α : Type} {pr : α → Lx} {s : Int} {c : List UInt8 → Prop} [∀ b, Decidable (c b)] {f g : List UInt8 → α} {bs : List UInt8}
    (hc : ∀ F b2, Agr F bs b2 → s ≤ F → (c b2 ↔ c bs)) (hf : c bs → Gd pr s f bs) (hg : ¬ c bs → Gd pr s g bs) : Gd pr s (fun b => if c b then f b else g b) bs := by
  by_cases h : c bs
  · have k := hf h
    exact ⟨by rw [if_pos h]; exact k.ok, by rw [if_pos h]; exact k.ge, fun F b2 ha hl => by
      try dsimp only at hl ⊢
      rw [if_pos h] at hl ⊢
      rw [if_pos ((hc F b2 ha (Int.le_trans k.ge hl)).2 h)]
      exact k.cut F b2 ha hl⟩
  · have k := hg h
    exact ⟨by rw [if_neg h]; exact k.ok, by rw [if_neg h]; exact k.ge, fun F b2 ha hl => by
      try dsimp only at hl ⊢
      rw [if_neg h] at hl ⊢
      rw [if_neg (fun q => h ((hc F b2 ha (Int.le_trans k.ge hl)).1 q))]
      exact k.cut F b2 ha hl⟩
theorem Gd.pure {α : Type} {pr : α → Lx} {s : Int} {v : α} {bs : List UInt8} (h : Ok bs (pr v)) (hs : s ≤ (pr v).fr) : Gd pr s (fun _ => v) bs := ⟨h, hs, fun _ _ _ _ => rfl⟩
theorem Gd.less {α : Type} {pr : α → Lx} {s s' : Int} {op : List UInt8 → α} {bs : List UInt8} (h : Gd pr s op bs) (hs : s' ≤ s) : Gd pr s' op bs := ⟨h.ok, Int.le_trans hs h.ge, h.cut⟩
theorem Gd.map {α β : Type} {pr : α → Lx} {qr : β → Lx} {s : Int} {op : List UInt8 → α} {bs : List UInt8} (h : Gd pr s op bs) (g : α → β) (hq : ∀ a, qr (g a) = pr a) : Gd qr s (fun b => g (op b)) bs :=
  ⟨by rw [hq]; exact h.ok, by rw [hq]; exact h.ge, fun F b2 ha hf => congrArg g (h.cut F b2 ha (by rw [hq] at hf; exact hf))⟩

theorem may_same {F : Int} {a b set : List UInt8} {x : Lx} (h : Agr F a b) (hf : x.fr ≤ F) : mayB b set x = mayB a set x := by
  cases hw : x.well
  · rw [may_bad hw, may_bad hw]
  · rw [fr_well hw] at hf
    unfold mayB
    rw [h.at_ hf]
theorem up_well {x : Lx} : x.up.well = x.well := rfl
theorem ok_up {bs set : List UInt8} {x : Lx} (h : mayB bs set x = true) : Ok bs x.up ∧ x.fr ≤ x.up.fr ∧ x.up.fr = x.fr + 1 := by
  have hw := may_well h
  have hl := may_lt h
  have h1 := fr_well hw
  have h2 := fr_well (x := x.up) hw
  have h3 : x.up.at_ = x.at_ + 1 := rfl
  exact ⟨⟨by omega, by omega⟩, by omega, by omega⟩
theorem gd_up {bs set : List UInt8} {x : Lx} (h : mayB bs set x = true) : Gd id x.fr (fun _ => x.up) bs := .pure (ok_up h).1 (ok_up h).2.1
theorem wrong_eq {n : Nat} {x : Lx} (hw : x.well = true) (hn : x.at_ < n) : wrongS n x = { x with w := 5, f := x.at_ } := by
  unfold wrongS
  rw [if_neg (by rw [hw]; decide), if_neg (by omega)]
theorem wrong_id {n : Nat} {x : Lx} (hw : x.well = false) : wrongS n x = x := by unfold wrongS; rw [if_pos hw]
theorem wrong_f {n : Nat} {x : Lx} (hw : x.well = true) (hn : x.at_ ≤ n) : (wrongS n x).f = x.at_ := by
  unfold wrongS
  rw [if_neg (by rw [hw]; decide)]
  split
  · show (n : Int) = _; omega
  · rfl
theorem wrong_fr {bs : List UInt8} {x : Lx} (h : Ok bs x) : (wrongS bs.length x).fr = x.fr := by
  cases hw : x.well
  · rw [wrong_id hw]
  · rw [fr_bad wrong_bad, fr_well hw, wrong_f hw h.at_]
theorem gd_wrong {bs : List UInt8} {x : Lx} (h : Ok bs x) : Gd id x.fr (fun b => wrongS b.length x) bs := by
  refine ⟨⟨by show (wrongS bs.length x).at_ ≤ _; rw [wrong_at]; exact h.at_, by show (wrongS bs.length x).fr ≤ _; rw [wrong_fr h]; exact h.fr⟩, by show x.fr ≤ (wrongS bs.length x).fr; rw [wrong_fr h]; exact Int.le_refl _, fun F b2 ha hf => ?_⟩
  have hf : (wrongS bs.length x).fr ≤ F := hf
  rw [wrong_fr h] at hf
  try dsimp only
  cases hw : x.well
  · rw [wrong_id hw, wrong_id hw]
  · rw [fr_well hw] at hf
    have := ha.la; have := ha.lb
    rw [wrong_eq hw (by omega), wrong_eq hw (by omega)]
theorem gd_may {bs set : List UInt8} {x : Lx} (h : Ok bs x) : Gd id x.fr (fun b => mayS b set x) bs :=
  Gd.ite (c := fun b => mayB b set x = true) (fun F b2 ha hs => by rw [may_same ha hs]) (fun hm => gd_up hm) (fun _ => .pure h (Int.le_refl _))
theorem gd_must {bs set : List UInt8} {x : Lx} (h : Ok bs x) : Gd id x.fr (fun b => mustS b set x) bs :=
  Gd.ite (c := fun b => mayB b set x = true) (fun F b2 ha hs => by rw [may_same ha hs]) (fun hm => gd_up hm) (fun _ => gd_wrong h)
theorem many_unf (bs set : List UInt8) (x : Lx) : manyS bs set x = if mayB bs set x = true then manyS bs set x.up else x := by
  by_cases h : mayB bs set x = true
  · rw [if_pos h]; exact many_up h
  · rw [if_neg h]; exact many_no (by simpa using h)
theorem gd_ifmay {α : Type} {pr : α → Lx} {bs set : List UInt8} {x : Lx} {f g : List UInt8 → α} (hf : mayB bs set x = true → Gd pr x.fr f bs) (hg : mayB bs set x = false → Gd pr x.fr g bs) : Gd pr x.fr (fun b => if mayB b set x = true then f b else g b) bs :=
  Gd.ite (c := fun b => mayB b set x = true) (fun F b2 ha hs => by rw [may_same ha hs]) hf (fun h => hg (by simpa using h))
theorem gd_many {bs set : List UInt8} : ∀ (m : Nat) {x : Lx}, bs.length - x.at_ = m → Ok bs x → Gd id x.fr (fun b => manyS b set x) bs
  | m, x, hm, h => by
    rw [show (fun b => manyS b set x) = fun b => if mayB b set x = true then manyS b set x.up else x from funext fun b => many_unf b set x]
    refine gd_ifmay (fun q => ?_) (fun _ => .pure h (Int.le_refl _))
    have := may_lt q
    exact (gd_many (m - 1) (x := x.up) (by show bs.length - (x.at_ + 1) = _; omega) (ok_up q).1).less (ok_up q).2.1
theorem gd_many' {bs set : List UInt8} {x : Lx} (h : Ok bs x) : Gd id x.fr (fun b => manyS b set x) bs := gd_many _ rfl h
theorem gd_num1 {bs : List UInt8} {x : Lx} (h : Ok bs x) : Gd id x.fr (fun b => num1 b x) bs := by
  have h1 := gd_may (set := [45]) h
  refine Gd.bind (g := fun b y => if mayB b [48] y = true then mayS b [48] y else if mayB b digs y = true then manyS b digs (mustS b digs y) else mustS b digs y) h1 ?_
  have h2 : Ok bs (mayS bs [45] x) := h1.ok
  show Gd id (mayS bs [45] x).fr (fun b => if mayB b [48] (mayS bs [45] x) = true then mayS b [48] (mayS bs [45] x) else if mayB b digs (mayS bs [45] x) = true then manyS b digs (mustS b digs (mayS bs [45] x)) else mustS b digs (mayS bs [45] x)) bs
  generalize mayS bs [45] x = y at *
  refine gd_ifmay (fun _ => gd_may h2) (fun _ => gd_ifmay (fun _ => ?_) (fun _ => gd_must h2))
  have h3 := gd_must (set := digs) h2
  exact Gd.bind (g := fun b z => manyS b digs z) h3 (gd_many' h3.ok)
theorem gd_num2 {bs : List UInt8} {x : Lx} (h : Ok bs x) : Gd id x.fr (fun b => num2 b x) bs := by
  refine gd_ifmay (fun _ => ?_) (fun _ => .pure h (Int.le_refl _))
  have h1 := gd_may (set := [46]) h
  refine Gd.bind (g := fun b y => manyS b digs (mustS b digs y)) h1 ?_
  have h3 := gd_must (set := digs) h1.ok
  exact Gd.bind (g := fun b z => manyS b digs z) h3 (gd_many' h3.ok)
theorem gd_num3 {bs : List UInt8} {x : Lx} (h : Ok bs x) : Gd id x.fr (fun b => num3 b x) bs := by
  refine gd_ifmay (fun _ => ?_) (fun _ => .pure h (Int.le_refl _))
  have h1 := gd_may (set := [101, 69]) h
  refine Gd.bind (g := fun b y => manyS b digs (mustS b digs (mayS b [43, 45] y))) h1 ?_
  have h2 := gd_may (set := [43, 45]) h1.ok
  refine Gd.bind (g := fun b y => manyS b digs (mustS b digs y)) h2 ?_
  have h3 := gd_must (set := digs) h2.ok
  exact Gd.bind (g := fun b z => manyS b digs z) h3 (gd_many' h3.ok)
theorem gd_num {bs : List UInt8} {x : Lx} (h : Ok bs x) : Gd id x.fr (fun b => numS b x) bs := by
  have h1 := gd_num1 h
  refine Gd.bind (g := fun b y => num3 b (num2 b y)) h1 ?_
  have h2 := gd_num2 h1.ok
  exact Gd.bind (g := fun b y => num3 b y) h2 (gd_num3 h2.ok)
theorem gd_unit {bs : List UInt8} (low : Bool) : ∀ (k i n : Nat) {x : Lx}, Ok bs x → Gd Prod.snd x.fr (fun b => unitS b low k i n x) bs
  | 0, i, n, x, h => .pure h (Int.le_refl _)
  | k + 1, i, n, x, h => by
    refine gd_ifmay (fun q => ?_) (fun _ => (gd_must h).map (fun y => ((0 : Nat), y)) fun _ => rfl)
    refine ⟨?_, ?_, ?_⟩
    all_goals have h3 := gd_must (set := setOf low i n) h
    all_goals have h4 := gd_unit low k (i + 1) (n * 16 + hexv (bs.getD x.at_ 0)) h3.ok
    · exact h4.ok
    · exact Int.le_trans h3.ge h4.ge
    · intro F b2 ha hf
      have e1 := h3.cut F b2 ha (Int.le_trans h4.ge hf)
      have hx : (x.at_ : Int) ≤ F := by have := Int.le_trans h3.ge (Int.le_trans h4.ge hf); rw [fr_well (may_well q)] at this; exact this
      try dsimp only at e1 ⊢
      rw [e1, ha.get hx]
      exact h4.cut F b2 ha hf
end Go.Proofs.Ytfphpjinimfhfaa
