import Derived.Test.YtojgnofagkekeaaDoorVMFN1
import Derived.Test.YtojgnofagkekeaaDoorVMClosed
namespace Go.Proofs.YtojgnofagkekeaaDoor
open Go.Proofs.YtojgnofagkekeaaDoor.VM Go.RowKit
set_option maxRecDepth 100000
set_option linter.unusedVariables false
theorem glOK : ∀ w : World, Glob.okw w → ∀ k, VR (gh0 w) (Glob.gl k) (.pointer (some ⟨k, 0, none⟩)) := fun w h k => by
  show VR (gh0 w) (if k = 0 then .cptr tabV 0 else .undef) _
  split
  · rename_i e
    subst e
    have hl : tabV.length = tab64.length := by simp [tabV]
    refine .cptr tabV 0 0 0 (fun i => .int .u8 (tab64.getD i 0)) (fun i hi => ?_) (fun i hi => ?_)
    · show w.cell? ⟨0, 0 + i, none⟩ = _
      rw [Nat.zero_add]
      exact Lib.TabIs.cell h tabOf i (by rw [← hl]; exact hi)
    · have e2 : tabV[i] = .int .u8 (tab64.getD i 0) := by
        have hi2 : i < tab64.length := by rw [← hl]; exact hi
        simp [tabV, List.getD, hi2]
      rw [e2]
      exact .int _ _
  · exact .undef _
theorem stOK : ∀ w0 w : World, Below w0.heap.size w0 w → Glob.okw w0 → Glob.okw w := fun w0 w hb h0 => by
  have h0 : Lib.TabIs Tryd.prog w0 "math/bits.deBruijn64tab" .u8 tab64 := h0
  show Lib.TabIs Tryd.prog w "math/bits.deBruijn64tab" .u8 tab64
  unfold Lib.TabIs World.var? at h0 ⊢
  obtain ⟨gg, h1, h2⟩ := Option.bind_eq_some_iff.1 h0
  refine Option.bind_eq_some_iff.2 ⟨gg, h1, ?_⟩
  have hlt : gg < w0.heap.size := by
    rcases Nat.lt_or_ge gg w0.heap.size with h | h
    · exact h
    · rw [Array.getElem?_eq_none h] at h2; cases h2
  rw [hb.block gg hlt]
  exact h2
def aliveG : List AV → St → Option (AV × St)
  | [], S => some (.bool true, S)
  | _, _ => none
def cmpG : List AV → St → Option (AV × St)
  | [.str a, .str b], S => some (.int .i64 (Lib.compareBytes a b), S)
  | _, _ => none
def digs10 : List UInt8 := [48, 49, 50, 51, 52, 53, 54, 55, 56, 57]
/-- The set of the digits. -/
def setL : List AV := (List.range 256).map fun i => .bool (decide (48 ≤ i ∧ i ≤ 57))
def setV : AV := .tuple [.agg setL, .bool true]
def setG : List AV → St → Option (AV × St)
  | [.str s], S => if s = digs10 then some (setV, S) else none
  | _, _ => none
theorem set_run : isRetV setV (callA Tryd.prog NC00 200 65 [.str digs10] st0) = true := by kernel_rfl
/-- Some zeros' digits. -/
def repG : List AV → St → Option (AV × St)
  | [.str s, .int .i64 n], S => if s = [48] ∧ 0 ≤ n ∧ n < 10 then some (.str (List.replicate n.toNat 48), S) else none
  | _, _ => none
theorem rep_run : ((List.range 10).all fun k => isRetV (.str (List.replicate k 48)) (callA Tryd.prog NC00 200 76 [.str [48], .int .i64 (k : Nat)] st0)) = true := by kernel_rfl
/-- What over and digits are walked in. -/
def intrB (f : Nat) : Option (List AV → St → Option (AV × St)) :=
  if f = 65 then some setG else if f = 76 then some repG else NC00.intr f
def NCB : Cfg := { NC00 with intr := intrB }
/-- What all else is walked in (h), and these two (not h). -/
noncomputable def NC (h : Bool) : Cfg := { NCB with intr := fun (f : Nat) => if f = 902486 ∨ f = 60 then (if h = true then some (backG Tryd.prog NCB bkN f) else none) else NCB.intr f }
theorem intrOKB : IntrOK Tryd.prog NCB := by
  intro f g args S v S' hi hg
  simp only [NCB, intrB] at hi
  split at hi
  · rename_i hf
    subst hf
    cases hi
    unfold setG at hg
    split at hg
    case h_2 => cases hg
    rename_i s
    split at hg
    case isFalse => cases hg
    rename_i hs
    subst hs
    cases hg
    exact ⟨closed_callV mixed intrOK00 rfl (by kernel_rfl) set_run glOK stOK S, Nat.le_refl _⟩
  split at hi
  · rename_i hf
    subst hf
    cases hi
    unfold repG at hg
    split at hg
    case h_2 => cases hg
    rename_i s n
    split at hg
    case isFalse => cases hg
    rename_i hs
    obtain ⟨rfl, h0, h1⟩ := hs
    cases hg
    obtain ⟨k, rfl⟩ : ∃ k : Nat, n = k := ⟨n.toNat, by omega⟩
    have hr := List.all_eq_true.1 rep_run k (List.mem_range.2 (by omega))
    exact ⟨closed_callV mixed intrOK00 rfl rfl hr glOK stOK S, Nat.le_refl _⟩
  · exact intrOK00 f g args S v S' hi hg
theorem intrOK (h : Bool) : IntrOK Tryd.prog (NC h) := by
  intro f g args S v S' hi hg
  simp only [NC] at hi
  split at hi
  · split at hi
    · cases hi
      exact backG_sound mixed intrOKB backN hg
    · cases hi
  · exact intrOKB f g args S v S' hi hg
theorem ncFalse : NC false = NCB := by
  have : (fun (f : Nat) => if f = 902486 ∨ f = 60 then (if false = true then some (backG Tryd.prog NCB bkN f) else none) else NCB.intr f) = NCB.intr := by
    funext f
    split
    · rename_i q
      rcases q with rfl | rfl <;> rfl
    · rfl
  unfold NC
  rw [this]
/-- over and digits: by their own walk. -/
theorem back_call {f : FuncId} {fn : Func} {c : Code} {args : List AV} {S : St} {Q : AV → St → Prop} (hN : f = 902486 ∨ f = 60) (hf : Tryd.prog.funcs[f]? = some fn) (hb : fn.body = some c) (hn : fn.name ≠ "runtime.NumGoroutine")
    (h : CodeBQ Tryd.prog (NC false) bkN f c (args ++ List.replicate (fn.ntmps - args.length) (.tuple [])) S fun out e1 S1 => out = .ret ∧ ∃ v u S2, resultsA Tryd.prog fn e1 S1 = some v ∧ postA (NC false) f v S1 = some (u, S2) ∧ Q u S2) :
    CallQ Tryd.prog (NC true) f args S Q := by
  rw [ncFalse] at h
  unfold CodeBQ at h
  obtain ⟨k, out, e1, S1, nD, h1, rfl, v, u, S2, h2, h3, h4⟩ := h
  have hc : callB Tryd.prog NCB (callA Tryd.prog NCB k) bkN k f args S = some (u, S2) := by
    unfold callB
    rw [hf]
    simp only [hb, if_neg hn, h1, h2, Option.bind_some, h3]
  refine CallQ.intr (g := backG Tryd.prog NCB bkN f) ?_ (backG_of hc) h4
  simp only [NC, if_pos hN, if_true]
end Go.Proofs.YtojgnofagkekeaaDoor
