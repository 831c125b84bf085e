import Derived.Test.YtnbjhgaaollhcaaDoorVMNN1
import Derived.Test.YtnbjhgaaollhcaaDoorVMClosed
namespace Go.Proofs.YtnbjhgaaollhcaaDoor
open Go.Proofs.YtnbjhgaaollhcaaDoor.VM Go.RowKit
set_option maxRecDepth 100000
set_option linter.unusedVariables false
theorem glOK : ∀ w : World, Glob.okw w → ∀ k, VR (gh0 w) (Glob.gl k) (.pointer (some ⟨k, 0, none⟩)) := fun w _ k => .undef _
theorem stOK : ∀ w0 w : World, Below w0.heap.size w0 w → Glob.okw w0 → Glob.okw w := fun _ _ _ _ => trivial
def aliveG : List AV → St → Option (AV × St)
  | [], S => some (.bool true, S)
  | _, _ => none
def cmpG : List AV → St → Option (AV × St)
  | [.str a, .str b], S => some (.int .i64 (Lib.compareBytes a b), S)
  | _, _ => none
theorem cmp_str (a b : ByteArray) (w : World) :
    Calls Tryd.prog 72 #[.string a, .string b] w fun e w' => e = .returned (.int .i64 (Lib.compareBytes a.data.toList b.data.toList)) ∧ w' = w := by
  have mixed := mixed
  go_enter Tryd.func72, Tryd.ntmps72
  go_wp2
  rw [run_callFunc_extern Tryd.func82 (by kernel_rfl) (by kernel_rfl) (by kernel_rfl) (e := Extern.BytealgCompare.compare) (by kernel_rfl), Lib.run_compareString]
  simp only [Result.andThen]
  rw [Oper.upon_value]
  go_wp2
  go_ret
  exact ⟨rfl, rfl⟩
def digs10 : List UInt8 := [48, 49, 50, 51, 52, 53, 54, 55, 56, 57]
/-- The set of the digits. -/
def setL : List AV := (List.range 256).map fun i => .bool (decide (48 ≤ i ∧ i ≤ 57))
def setV : AV := .tuple [.agg setL, .bool true]
def setG : List AV → St → Option (AV × St)
  | [.str s], S => if s = digs10 then some (setV, S) else none
  | _, _ => none
theorem set_run : isRetV setV (callA Tryd.prog NC00 200 62 [.str digs10] st0) = true := by kernel_rfl
/-- Some zeros' digits. -/
def repG : List AV → St → Option (AV × St)
  | [.str s, .int .i64 n], S => if s = [48] ∧ 0 ≤ n ∧ n < 10 then some (.str (List.replicate n.toNat 48), S) else none
  | _, _ => none
theorem rep_run : ((List.range 10).all fun k => isRetV (.str (List.replicate k 48)) (callA Tryd.prog NC00 200 55 [.str [48], .int .i64 (k : Nat)] st0)) = true := by kernel_rfl
/-- What over and digits are walked in. -/
def NCB : Cfg := { NC00 with intr := fun (f : Nat) => if f = 13 then some aliveG else if f = 72 then some cmpG else if f = 62 then some setG else if f = 55 then some repG else NC00.intr f }
/-- What all else is walked in (h), and these two (not h). -/
noncomputable def NC (h : Bool) : Cfg := { NCB with intr := fun (f : Nat) => if f = 39 ∨ f = 40 then (if h = true then some (backG Tryd.prog NCB bkN f) else none) else NCB.intr f }
theorem intrOKB : IntrOK Tryd.prog NCB := by
  intro f g args S v S' hi hg
  simp only [NCB] at hi
  split at hi
  · rename_i hf
    subst hf
    cases hi
    unfold aliveG at hg
    split at hg
    case h_2 => cases hg
    cases hg
    exact ⟨closed_call mixed intrOKA alive_run glOK stOK S, Nat.le_refl _⟩
  split at hi
  · rename_i hf
    subst hf
    cases hi
    unfold cmpG at hg
    split at hg
    case h_2 => cases hg
    rename_i a b
    cases hg
    refine ⟨?_, Nat.le_refl _⟩
    intro w0 G F w cargs _ hv hs hwf hFO hFN
    obtain ⟨l⟩ := cargs
    cases hv with
    | cons h1 t =>
    cases t with
    | cons h2 t =>
    cases t
    cases h1
    cases h2
    refine .inl ⟨enter_run Tryd.func72 rfl (by decide), (cmp_str _ _ w).mono fun e w' ⟨he, hw⟩ => ?_⟩
    subst hw
    exact ⟨G, .refl _ _ _, hs, .refl hwf, _, he, .int _ _⟩
  split at hi
  · rename_i hf
    subst hf
    cases hi
    unfold setG at hg
    split at hg
    case h_2 => cases hg
    rename_i s
    split at hg
    case isFalse => cases hg
    rename_i hs
    subst hs
    cases hg
    exact ⟨closed_callV mixed intrOK00 rfl (by kernel_rfl) set_run glOK stOK S, Nat.le_refl _⟩
  split at hi
  · rename_i hf
    subst hf
    cases hi
    unfold repG at hg
    split at hg
    case h_2 => cases hg
    rename_i s n
    split at hg
    case isFalse => cases hg
    rename_i hs
    obtain ⟨rfl, h0, h1⟩ := hs
    cases hg
    obtain ⟨k, rfl⟩ : ∃ k : Nat, n = k := ⟨n.toNat, by omega⟩
    have hr := List.all_eq_true.1 rep_run k (List.mem_range.2 (by omega))
    exact ⟨closed_callV mixed intrOK00 rfl rfl hr glOK stOK S, Nat.le_refl _⟩
  · exact intrOK00 f g args S v S' hi hg
theorem intrOK (h : Bool) : IntrOK Tryd.prog (NC h) := by
  intro f g args S v S' hi hg
  simp only [NC] at hi
  split at hi
  · split at hi
    · cases hi
      exact backG_sound mixed intrOKB backN hg
    · cases hi
  · exact intrOKB f g args S v S' hi hg
theorem ncFalse : NC false = NCB := by
  have : (fun (f : Nat) => if f = 39 ∨ f = 40 then (if false = true then some (backG Tryd.prog NCB bkN f) else none) else NCB.intr f) = NCB.intr := by
    funext f
    split
    · rename_i q
      rcases q with rfl | rfl <;> rfl
    · rfl
  unfold NC
  rw [this]
/-- over and digits: by their own walk. -/
theorem back_call {f : FuncId} {fn : Func} {c : Code} {args : List AV} {S : St} {Q : AV → St → Prop} (hN : f = 39 ∨ f = 40) (hf : Tryd.prog.funcs[f]? = some fn) (hb : fn.body = some c) (hn : fn.name ≠ "runtime.NumGoroutine")
    (h : CodeBQ Tryd.prog (NC false) bkN f c (args ++ List.replicate (fn.ntmps - args.length) (.tuple [])) S fun out e1 S1 => out = .ret ∧ ∃ v u S2, resultsA Tryd.prog fn e1 S1 = some v ∧ postA (NC false) f v S1 = some (u, S2) ∧ Q u S2) :
    CallQ Tryd.prog (NC true) f args S Q := by
  rw [ncFalse] at h
  unfold CodeBQ at h
  obtain ⟨k, out, e1, S1, nD, h1, rfl, v, u, S2, h2, h3, h4⟩ := h
  have hc : callB Tryd.prog NCB (callA Tryd.prog NCB k) bkN k f args S = some (u, S2) := by
    unfold callB
    rw [hf]
    simp only [hb, if_neg hn, h1, h2, Option.bind_some, h3]
  refine CallQ.intr (g := backG Tryd.prog NCB bkN f) ?_ (backG_of hc) h4
  simp only [NC, if_pos hN, if_true]
end Go.Proofs.YtnbjhgaaollhcaaDoor
