import Derived.Test.YtfphpjinimfhfaaVMJ1
import Derived.Test.YtfphpjinimfhfaaVMUtf
namespace Go.Proofs.Ytfphpjinimfhfaa
open Go.Proofs.Ytfphpjinimfhfaa.VM Go.RowKit
set_option maxRecDepth 100000
set_option linter.unusedVariables false
def I3 (n : Int) : AV := .int .i64 n
def moreF (c : Int) : Int := if c < 128 then 0 else if c < 194 ∨ 244 < c then 0 else if c < 224 then 1 else if c < 240 then 2 else 3
def bitsF (c : Int) : Int := if c < 128 then c else if c < 194 ∨ 244 < c then 0 else if c < 224 then c % 32 else if c < 240 then c % 16 else c % 8
def fromF (c : Int) : Int := if c < 194 ∨ 244 < c then 0 else loS c
def toF (c : Int) : Int := if c < 194 ∨ 244 < c then 0 else hiS c
def okF (c : Int) : Bool := decide (c < 128 ∨ 194 ≤ c ∧ c ≤ 244)
def headsV (c : Int) : AV := .tuple [.agg [.int .i64 (moreF c), .int .i32 (bitsF c), .int .u8 (fromF c), .int .u8 (toF c)], .bool (okF c)]
def headsG : List AV → St → Option (AV × St)
  | [.int .u8 c], S => if 0 ≤ c ∧ c < 256 then some (headsV c, S) else none
  | _, _ => none
def lenF (c : Int) : Int := if c < 128 then 1 else if c < 194 ∨ 244 < c then 0 else if c < 224 then 2 else if c < 240 then 3 else 4
def lengthG : List AV → St → Option (AV × St)
  | [.int .u8 c], S => if 0 ≤ c ∧ c < 256 then some (.int .i64 (lenF c), S) else none
  | _, _ => none
def leastG : List AV → St → Option (AV × St)
  | [.int .u8 c], S => if 0 ≤ c ∧ c < 256 then some (.int .u8 (loS c), S) else none
  | _, _ => none
def mostG : List AV → St → Option (AV × St)
  | [.int .u8 c], S => if 0 ≤ c ∧ c < 256 then some (.int .u8 (hiS c), S) else none
  | _, _ => none
def aliveG : List AV → St → Option (AV × St)
  | [], S => some (.bool true, S)
  | _, _ => none
def JC (h : Bool) : Cfg := { JC0 h with intr := fun (f : Nat) => if f = 10 then some aliveG else if f = 48 then some headsG else if f = 43 then some lengthG else if f = 44 then some leastG else if f = 45 then some mostG else (JC0 h).intr f }
theorem tab_heads : ((List.range 256).all fun c => isRetV (headsV c) (callA Try.prog (JC0 false) 20 48 [.int .u8 c] st0)) = true := by kernel_rfl
theorem tab_length : ((List.range 256).all fun c => isRetV (.int .i64 (lenF c)) (callA Try.prog (JC0 false) 20 43 [.int .u8 c] st0)) = true := by kernel_rfl
theorem tab_least : ((List.range 256).all fun c => isRetV (.int .u8 (loS c)) (callA Try.prog (JC0 false) 20 44 [.int .u8 c] st0)) = true := by kernel_rfl
theorem tab_most : ((List.range 256).all fun c => isRetV (.int .u8 (hiS c)) (callA Try.prog (JC0 false) 20 45 [.int .u8 c] st0)) = true := by kernel_rfl
theorem intrOK0 (h : Bool) : IntrOK Try.prog (JC0 h) := by
  intro f g args S v S' hi hg
  simp only [JC0] at hi
  split at hi
  · rename_i hf
    subst hf
    cases hi
    exact copyCheck_callS (fun _ _ => enter_run Try.func31 rfl (by decide)) bld_fresh bld_used hg
  · split at hi
    · rename_i hf
      subst hf
      cases hi
      exact bldString_callS (fun _ _ => enter_run Try.func22 rfl (by decide)) bld_nil bld_row hg
    · split at hi
      · rename_i hf
        subst hf
        cases hi
        unfold idxByteG at hg
        split at hg
        case h_2 => cases hg
        rename_i s c
        cases hg
        refine ⟨?_, Nat.le_refl _⟩
        intro w0 G F w cargs _ hv hs hwf hFO hFN
        obtain ⟨l⟩ := cargs
        cases hv with
        | cons h1 t =>
        cases t with
        | cons h2 t =>
        cases t
        cases h1
        cases h2
        refine .inl ⟨enter_run Try.func19 rfl (by decide), (idx_byte _ _ w).mono fun e w' ⟨he, hw⟩ => ?_⟩
        subst hw
        exact ⟨G, .refl _ _ _, hs, .refl hwf, _, he, .int _ _⟩
      · cases hi
theorem glOK : ∀ w : World, Glob.okw w → ∀ k, VR (gh0 w) (Glob.gl k) (.pointer (some ⟨k, 0, none⟩)) := fun w _ k => .undef _
theorem stOK : ∀ w0 w : World, Below w0.heap.size w0 w → Glob.okw w0 → Glob.okw w := fun _ _ _ _ => trivial
theorem tab_at {p : Nat → Bool} {n : Nat} (h : ((List.range n).all p) = true) {c : Int} (h0 : 0 ≤ c) (h1 : c < n) : p c.toNat = true := List.all_eq_true.1 h _ (List.mem_range.2 (by omega))
theorem intrOK (h : Bool) : IntrOK Try.prog (JC h) := by
  intro f g args S v S' hi hg
  simp only [JC] at hi
  split at hi
  · rename_i hf
    subst hf
    cases hi
    unfold aliveG at hg
    split at hg
    case h_2 => cases hg
    cases hg
    exact ⟨closed_call mixed (intrOK0 false) alive_run glOK stOK S, Nat.le_refl _⟩
  split at hi
  · rename_i hf
    subst hf
    cases hi
    unfold headsG at hg
    split at hg
    case h_2 => cases hg
    rename_i c
    split at hg
    case isFalse => cases hg
    rename_i hc
    cases hg
    have := tab_at tab_heads hc.1 hc.2
    rw [Int.toNat_of_nonneg hc.1] at this
    exact ⟨closed_callV mixed (intrOK0 false) rfl rfl this glOK stOK S, Nat.le_refl _⟩
  split at hi
  · rename_i hf
    subst hf
    cases hi
    unfold lengthG at hg
    split at hg
    case h_2 => cases hg
    rename_i c
    split at hg
    case isFalse => cases hg
    rename_i hc
    cases hg
    have := tab_at tab_length hc.1 hc.2
    rw [Int.toNat_of_nonneg hc.1] at this
    exact ⟨closed_callV mixed (intrOK0 false) rfl rfl this glOK stOK S, Nat.le_refl _⟩
  split at hi
  · rename_i hf
    subst hf
    cases hi
    unfold leastG at hg
    split at hg
    case h_2 => cases hg
    rename_i c
    split at hg
    case isFalse => cases hg
    rename_i hc
    cases hg
    have := tab_at tab_least hc.1 hc.2
    rw [Int.toNat_of_nonneg hc.1] at this
    exact ⟨closed_callV mixed (intrOK0 false) rfl rfl this glOK stOK S, Nat.le_refl _⟩
  split at hi
  · rename_i hf
    subst hf
    cases hi
    unfold mostG at hg
    split at hg
    case h_2 => cases hg
    rename_i c
    split at hg
    case isFalse => cases hg
    rename_i hc
    cases hg
    have := tab_at tab_most hc.1 hc.2
    rw [Int.toNat_of_nonneg hc.1] at this
    exact ⟨closed_callV mixed (intrOK0 false) rfl rfl this glOK stOK S, Nat.le_refl _⟩
  exact intrOK0 h f g args S v S' hi hg
end Go.Proofs.Ytfphpjinimfhfaa
