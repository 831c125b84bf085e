import Derived.Test.YtmkmakokgfigoaaDoorVMON1
import Derived.Test.YtmkmakokgfigoaaDoorVMClosed
import Derived.Test.YtmkmakokgfigoaaDoorVMUtf
import Derived.Test.YtmkmakokgfigoaaDoorVMTShelf
namespace Go.Proofs.YtmkmakokgfigoaaDoor
open Go.Proofs.YtmkmakokgfigoaaDoor.VM Go.RowKit
set_option maxRecDepth 100000
set_option linter.unusedVariables false
def I3 (n : Int) : AV := .int .i64 n
def moreF (c : Int) : Int := if c < 128 then 0 else if c < 194 ∨ 244 < c then 0 else if c < 224 then 1 else if c < 240 then 2 else 3
def bitsF (c : Int) : Int := if c < 128 then c else if c < 194 ∨ 244 < c then 0 else if c < 224 then c % 32 else if c < 240 then c % 16 else c % 8
def fromF (c : Int) : Int := if c < 194 ∨ 244 < c then 0 else loS c
def toF (c : Int) : Int := if c < 194 ∨ 244 < c then 0 else hiS c
def okF (c : Int) : Bool := decide (c < 128 ∨ 194 ≤ c ∧ c ≤ 244)
def headsV (c : Int) : AV := .tuple [.agg [.int .i64 (moreF c), .int .i32 (bitsF c), .int .u8 (fromF c), .int .u8 (toF c)], .bool (okF c)]
def headsG : List AV → St → Option (AV × St)
  | [.int .u8 c], S => if 0 ≤ c ∧ c < 256 then some (headsV c, S) else none
  | _, _ => none
def lenF (c : Int) : Int := if c < 128 then 1 else if c < 194 ∨ 244 < c then 0 else if c < 224 then 2 else if c < 240 then 3 else 4
def lengthG : List AV → St → Option (AV × St)
  | [.int .u8 c], S => if 0 ≤ c ∧ c < 256 then some (.int .i64 (lenF c), S) else none
  | _, _ => none
def leastG : List AV → St → Option (AV × St)
  | [.int .u8 c], S => if 0 ≤ c ∧ c < 256 then some (.int .u8 (loS c), S) else none
  | _, _ => none
def mostG : List AV → St → Option (AV × St)
  | [.int .u8 c], S => if 0 ≤ c ∧ c < 256 then some (.int .u8 (hiS c), S) else none
  | _, _ => none
theorem tab_heads : ((List.range 256).all fun c => isRetV (headsV c) (callA Tryd.prog NC00 20 62 [.int .u8 c] st0)) = true := by kernel_rfl
theorem tab_at {p : Nat → Bool} {n : Nat} (h : ((List.range n).all p) = true) {c : Int} (h0 : 0 ≤ c) (h1 : c < n) : p c.toNat = true := List.all_eq_true.1 h _ (List.mem_range.2 (by omega))
/-- Some zeros' digits. -/
def repG (m : Nat) : List AV → St → Option (AV × St)
  | [.str s, .int .i64 n], S => if s = [48] ∧ 0 ≤ n ∧ n < m then some (.str (List.replicate n.toNat 48), S) else none
  | _, _ => none
def repMax : Nat := 801
theorem rep_sound {args : List AV} {S S' : St} {v : AV} (hg : repG repMax args S = some (v, S')) : CallS Tryd.prog 60 args S (.ret v) S' ∧ S.next ≤ S'.next := by
  unfold repG at hg
  split at hg
  case h_2 => cases hg
  rename_i s n
  split at hg
  case isFalse => cases hg
  rename_i hs
  obtain ⟨rfl, h0, h1⟩ := hs
  cases hg
  obtain ⟨k, rfl⟩ : ∃ k : Nat, n = k := ⟨n.toNat, by omega⟩
  have hk : k < 801 := by unfold repMax at h1; omega
  refine ⟨?_, Nat.le_refl _⟩
  intro w0 G F w cargs _ hv hs hwf hFO hFN
  obtain ⟨l⟩ := cargs
  cases hv with
  | cons h1 t =>
  cases t with
  | cons h2 t =>
  cases t
  cases h1
  cases h2
  have hsz : (⟨#[48]⟩ : ByteArray).size = 1 := rfl
  refine .inl ⟨enter_run Tryd.func60 rfl (by decide), (Tryd.strings_Repeat ⟨#[48]⟩ k w (by omega) (by rw [hsz]; omega)).mono fun e w' ⟨he, hb⟩ => ?_⟩
  refine ⟨G, .refl _ _ _, sr_below hs hb, .refl hwf, _, he, ?_⟩
  have e1 : Lib.repeatL [48] k = List.replicate k 48 := by
    have := Lib.repeatL_replicate (48 : UInt8) 1 k
    simpa using this
  show VR G (.str (List.replicate (k : Int).toNat 48)) (.string ⟨(Lib.repeatL [48] k).toArray⟩)
  rw [e1, Int.toNat_natCast]
  exact .str _
end Go.Proofs.YtmkmakokgfigoaaDoor
namespace Go.Proofs.YtmkmakokgfigoaaDoor
open Go.Proofs.YtmkmakokgfigoaaDoor.VM Go.RowKit
set_option maxRecDepth 100000
set_option linter.unusedVariables false
theorem glOK : ∀ w : World, Glob.okw w → ∀ k, VR (gh0 w) (Glob.gl k) (.pointer (some ⟨k, 0, none⟩)) := fun w _ k => .undef _
theorem stOK : ∀ w0 w : World, Below w0.heap.size w0 w → Glob.okw w0 → Glob.okw w := fun _ _ _ _ => trivial
def aliveG : List AV → St → Option (AV × St)
  | [], S => some (.bool true, S)
  | _, _ => none
def cmpG : List AV → St → Option (AV × St)
  | [.str a, .str b], S => some (.int .i64 (Lib.compareBytes a b), S)
  | _, _ => none
def digs10 : List UInt8 := [48, 49, 50, 51, 52, 53, 54, 55, 56, 57]
/-- The set of the digits. -/
def setL : List AV := (List.range 256).map fun i => .bool (decide (48 ≤ i ∧ i ≤ 57))
def setV : AV := .tuple [.agg setL, .bool true]
def setG : List AV → St → Option (AV × St)
  | [.str s], S => if s = digs10 then some (setV, S) else none
  | _, _ => none
theorem set_run : isRetV setV (callA Tryd.prog NC00 200 65 [.str digs10] st0) = true := by kernel_rfl
/-- What over and digits are walked in. -/
def intrB (f : Nat) : Option (List AV → St → Option (AV × St)) :=
  if f = 18 then some aliveG else
  if f = 62 then some headsG else
  if f = 65 then some setG else if f = 60 then some (repG repMax) else NC00.intr f
def NCB : Cfg := { NC00 with intr := intrB }
def NC (_ : Bool) : Cfg := NCB
theorem intrOKB : IntrOK Tryd.prog NCB := by
  intro f g args S v S' hi hg
  simp only [NCB, intrB] at hi
  split at hi
  · rename_i hf
    subst hf
    cases hi
    unfold aliveG at hg
    split at hg
    case h_2 => cases hg
    cases hg
    exact ⟨closed_call mixed intrOK00 alive_run glOK stOK S, Nat.le_refl _⟩
  split at hi
  · rename_i hf
    subst hf
    cases hi
    unfold headsG at hg
    split at hg
    case h_2 => cases hg
    rename_i c
    split at hg
    case isFalse => cases hg
    rename_i hc
    cases hg
    have := tab_at tab_heads hc.1 hc.2
    rw [Int.toNat_of_nonneg hc.1] at this
    exact ⟨closed_callV mixed intrOK00 rfl rfl this glOK stOK S, Nat.le_refl _⟩
  split at hi
  · rename_i hf
    subst hf
    cases hi
    unfold setG at hg
    split at hg
    case h_2 => cases hg
    rename_i s
    split at hg
    case isFalse => cases hg
    rename_i hs
    subst hs
    cases hg
    exact ⟨closed_callV mixed intrOK00 rfl (by kernel_rfl) set_run glOK stOK S, Nat.le_refl _⟩
  split at hi
  · rename_i hf
    subst hf
    cases hi
    exact rep_sound hg
  · exact intrOK00 f g args S v S' hi hg
theorem intrOK (h : Bool) : IntrOK Tryd.prog (NC h) := intrOKB
end Go.Proofs.YtmkmakokgfigoaaDoor
