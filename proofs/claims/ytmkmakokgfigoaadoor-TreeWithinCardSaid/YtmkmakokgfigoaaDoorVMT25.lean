import Derived.Test.YtmkmakokgfigoaaDoorVMT22
import Derived.Test.YtmkmakokgfigoaaDoorVMTD1
import Derived.Test.YtmkmakokgfigoaaDoorVMTU3
namespace Go.Proofs.YtmkmakokgfigoaaDoor
open Go.Proofs.YtmkmakokgfigoaaDoor.VM Go.RowKit
set_option maxRecDepth 100000
set_option linter.unusedVariables false
/-! Which trees may be, in plain words. -/
mutual
def pdep : Pl → Nat
  | .mk _ _ _ _ _ _ _ keys kids => 1 + max (pdeps keys) (pdeps kids)
def pdeps : List Pl → Nat
  | [] => 0
  | x :: xs => max (pdep x) (pdeps xs)
end
mutual
theorem er_pdep : ∀ x : Nd, pdep (er x) = dep x
  | .mk _ _ _ _ _ _ _ _ _ keys _ kids => by simp only [er, pdep, dep, ers_pdeps keys, ers_pdeps kids]
theorem ers_pdeps : ∀ xs : List Nd, pdeps (ers xs) = deps xs
  | [] => rfl
  | x :: xs => by simp only [ers, pdeps, deps, er_pdep x, ers_pdeps xs]
end
mutual
/-- The strings are no longer than strings are. -/
def Sb : Pl → Prop
  | .mk _ _ _ dg _ tx _ keys kids => dg.length ≤ 2 ^ 47 ∧ tx.length ≤ 2 ^ 47 ∧ Sbs keys ∧ Sbs kids
def Sbs : List Pl → Prop
  | [] => True
  | x :: xs => Sb x ∧ Sbs xs
end
theorem sbs_iff : ∀ {xs : List Pl}, Sbs xs ↔ ∀ x ∈ xs, Sb x
  | [] => by simp [Sbs]
  | x :: xs => by rw [Sbs, sbs_iff (xs := xs)]; simp
/-- Is a text one? -/
def utfOk (tx : List UInt8) : Bool := decide ((runF (ib tx)).2 < 0)
/-- A decimal number that is whole. -/
def wholeN (neg : Bool) (ds : List UInt8) (e : Int) : Bool := rightN neg ds e && decide (0 ≤ e) && decide (e ≤ 800 - ds.length)
def firstE (kind : Int) (neg : Bool) (dg : List UInt8) (ex : Int) (tx : List UInt8) (nb : Nat) : Int :=
  if kind = 5 then (if 4096 < tx.length then 8 else if utfOk tx = true then 0 else 6)
  else if kind = 6 then (if 4096 < nb then 8 else 0)
  else if kind = 2 then (if rightS dg = true ∧ ¬ (neg = true ∧ dg = [48]) then 0 else 11)
  else if kind = 3 then (if wholeN neg dg ex = true ∨ rightN neg dg ex = false then 11 else 0)
  else 0
def bareE (kind : Int) (n : Nat) (neg : Bool) (dg : List UInt8) (ex : Int) (tx : List UInt8) (nb nk nd : Nat) : Bool :=
  decide ((n = 0 ∨ kind = 1 ∨ kind = 4 ∨ kind = 9 ∨ kind = 10) ∧ ((neg = false ∧ dg = []) ∨ kind = 2 ∨ kind = 3) ∧ (ex = 0 ∨ kind = 3) ∧ (tx = [] ∨ kind = 5) ∧ (nb = 0 ∨ kind = 6) ∧ (nk = 0 ∨ kind = 8) ∧ (nd = 0 ∨ kind = 7 ∨ kind = 8 ∨ kind = 9))
def badE (kind : Int) (n nk nd : Nat) : Bool :=
  decide (kind = 1 ∧ 1 < n ∨ kind = 8 ∧ nk ≠ nd ∨ kind = 9 ∧ nd ≠ 1 ∨ kind = 10 ∧ (255 < n ∨ 20 ≤ n ∧ n < 32 ∧ n ≠ 23))
/-- A node's fault, what is in it aside. -/
def aloneF (kind : Int) (n : Nat) (neg : Bool) (dg : List UInt8) (ex : Int) (tx : List UInt8) (nb nk nd : Nat) : Int :=
  if firstE kind neg dg ex tx nb ≠ 0 then firstE kind neg dg ex tx nb
  else if badE kind n nk nd = true ∨ kind < 0 ∨ 10 < kind ∨ bareE kind n neg dg ex tx nb nk nd = false then 12 else 0
def aloneP : Pl → Int
  | .mk kind n neg dg ex tx bs keys kids => aloneF kind n neg dg ex tx bs.length keys.length kids.length
open Classical in
noncomputable def twinP : Pl → Bool
  | .mk _ _ _ _ _ _ _ keys _ => decide (¬ keys.Nodup)
def inter {α : Type} : List (List α) → List (List α) → List α
  | a :: l, b :: m => a ++ (b ++ inter l m)
  | _, _ => []
mutual
/-- The nodes in the order in which they are looked at. -/
def wl : Pl → List Pl
  | .mk kind n neg dg ex tx bs keys kids => .mk kind n neg dg ex tx bs keys kids :: (if kind = 8 ∧ keys.length = kids.length then inter (wls keys) (wls kids) else (wls keys).flatten ++ (wls kids).flatten)
def wls : List Pl → List (List Pl)
  | [] => []
  | x :: xs => wl x :: wls xs
end
theorem wls_map : ∀ xs : List Pl, wls xs = xs.map wl
  | [] => rfl
  | x :: xs => by rw [wls, wls_map xs]; rfl
/-- What is known behind some nodes: the fault, whether there were twins, whether it goes on. -/
noncomputable def runL : List Pl → Int × Bool → (Int × Bool) × Bool
  | [], s => (s, true)
  | x :: l, s => if aloneP x = 0 then runL l (0, s.2 || twinP x) else ((aloneP x, s.2), false)
theorem runL_ok {x : Pl} {l : List Pl} {s : Int × Bool} (h : aloneP x = 0) : runL (x :: l) s = runL l (0, s.2 || twinP x) := by rw [runL, if_pos h]
theorem runL_bad {x : Pl} {l : List Pl} {s : Int × Bool} (h : aloneP x ≠ 0) : runL (x :: l) s = ((aloneP x, s.2), false) := by rw [runL, if_neg h]
theorem runL_app : ∀ (a b : List Pl) (s : Int × Bool), runL (a ++ b) s = if (runL a s).2 = true then runL b (runL a s).1 else runL a s
  | [], b, s => by simp [runL]
  | x :: a, b, s => by
    rw [List.cons_append]
    by_cases h : aloneP x = 0
    · rw [runL_ok h, runL_ok h]; exact runL_app a b _
    · rw [runL_bad h, runL_bad h]; rfl
theorem inter_take {α : Type} : ∀ (l m : List (List α)) (i : Nat) (h1 : i < l.length) (h2 : i < m.length), inter (l.take (i + 1)) (m.take (i + 1)) = inter (l.take i) (m.take i) ++ (l[i] ++ m[i])
  | a :: l, b :: m, 0, _, _ => by simp [inter]
  | a :: l, b :: m, i + 1, h1, h2 => by
    have := inter_take l m i (by simpa using h1) (by simpa using h2)
    simp only [List.take_succ_cons, inter, this, List.getElem_cons_succ, List.append_assoc]
/-- Which trees may be: the fault's number. -/
noncomputable def chkP (x : Pl) : Int :=
  if 1024 < pcnt x then 8 else if 24 < pdep x then 7
  else if (runL (wl x) (0, false)).1.1 = 0 ∧ (runL (wl x) (0, false)).1.2 = true then 9 else (runL (wl x) (0, false)).1.1
end Go.Proofs.YtmkmakokgfigoaaDoor
