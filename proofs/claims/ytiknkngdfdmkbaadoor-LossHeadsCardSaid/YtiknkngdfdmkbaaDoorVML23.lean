import Derived.Test.YtiknkngdfdmkbaaDoorVML13
import Derived.Test.YtiknkngdfdmkbaaDoorVML22
namespace Go.Proofs.YtiknkngdfdmkbaaDoor
open Go.Proofs.YtiknkngdfdmkbaaDoor.VM Go.ChangeShapes Go.WideShapes Go.ChangeAt Go.RowKit
set_option maxRecDepth 100000
set_option linter.unusedVariables false

theorem c5 : Tryd.prog.cellsOf 5 = 1 := by kernel_rfl
theorem b5 : Tryd.prog.bytesOf 5 = 1 := by kernel_rfl
theorem typed_bytes {n : Nat} {av : List AV} {b : Nat} (h : Typed Tryd.prog n 23 av b) : ∃ (s : AV) (bs : List UInt8), av = [s] ∧ Elems s (bs.map u8) ∧ bs.length ≤ 2 ^ 47 := by
  cases n with
  | zero => exact h.elim
  | succ n =>
    unfold Typed at h
    rw [Tryd.underlying23] at h
    rcases h with h | rfl | ⟨ys, rfl, hl, hby, hb, hy⟩
    · rw [c5] at h; cases h
    · exact ⟨.nils, [], rfl, .inl ⟨rfl, rfl⟩, by simp⟩
    · obtain ⟨bs, e, _⟩ := lift_list (f := u8) (ok := fun _ => True) (ys.map fun y => mkElt (isAggA Tryd.prog 5 == some true) y.1) (by
        intro x hx
        obtain ⟨y, hy1, rfl⟩ := List.mem_map.1 hx
        obtain ⟨_, ht⟩ := hy y hy1
        obtain ⟨i, hi, hw⟩ := typed_int Tryd.underlying5 ht
        rw [hi]
        have : 0 ≤ i ∧ i < 256 := by
          simp [Lit.wf, IntKind.min, IntKind.max, IntKind.signed, IntKind.bits] at hw
          omega
        refine ⟨UInt8.ofNat i.toNat, ?_, trivial⟩
        show AV.int .u8 i = .int .u8 ((UInt8.ofNat i.toNat).toNat : Nat)
        congr 1
        rw [UInt8.toNat_ofNat']
        omega)
      refine ⟨_, bs, rfl, .inr ⟨_, by rw [e]⟩, ?_⟩
      have := congrArg List.length e
      simp at this
      rw [b5] at hby
      unfold reachBytes at hby
      omega
theorem liftedLossBack (os : Os) (started : os.Started) (H : Type) (enc : TypeId × Value → H) :
    ReturnsInHanded {} Tryd.checked os 5 .any (fun w args => (Rows.lossBackSpec.pre enc Tryd.prog Tryd.f5 [] false w args ∧ laidMetH Tryd.prog laid3 w) ∧ sizedMet enc Tryd.prog Tryd.f5 (OpenSpec.ofChange Rows.lossBackSpec) false w args)
      (Rows.lossBackSpec.post enc Tryd.prog Tryd.f5 false true false false) := by
  refine returnsInHanded_of_change_and (C := Tryd.checked) (X := fun w _ => laidMetH Tryd.prog laid3 w) (fun _ _ _ hh h => h.of_heap hh) own started (by kernel_rfl) Tryd.func5
    (ChangeSpec.witness_shaped (enc := enc) (C := Tryd.checked) (os := os) (X := fun w _ => laidMetH Tryd.prog laid3 w) false (World.doorLaid Tryd.prog 400 os) #[.slice none 0 0] 8 rfl (World.shaped_of_RefB (by kernel_rfl) (by kernel_rfl)) (by kernel_rfl) (by kernel_rfl) (by kernel_rfl) (door_met os _)) ?_
  intro W base args ds gs before hval0 hW _ hsz hL _
  have hW' := hW
  obtain ⟨p, q, hA0, hV, rfl, hfz, hnd⟩ := hW
  have hA : DataW.TrodAll enc Tryd.prog W 0 (fun _ => true) true Tryd.f5.params.toList args.toList ds p := hA0
  rw [Tryd.params5] at hA
  obtain ⟨v0, vs0, d0, ds0, p0, q0, hargs, rfl, rfl, k0, r0⟩ := trodAll_cons hA
  obtain ⟨rfl, rfl, rfl⟩ := trodAll_nil r0
  obtain rfl : args = #[v0] := by cases args; simp_all
  obtain ⟨rfl, rfl⟩ := trodVars_none hV
  have hval : ∀ (j : Nat) t v, Tryd.f5.params[j]? = some t → (#[v0] : Array Value)[j]? = some v → Value.okWide Tryd.prog W .any base t v := hval0
  rw [Tryd.params5] at hval
  have lt0 : ∀ x ∈ p0, x.block < W.heap.size := by obtain ⟨m, hm⟩ := k0; exact DataW.trod_lt m _ _ _ hm
  obtain ⟨n0, a0, ht0, hr0⟩ := arg_slice contigs bulk0 Tryd.underlying22 (hval 0 22 v0 rfl rfl) k0 (light_of hsz 0 rfl rfl)
  obtain ⟨s0, ls0, e0, hs0, hls0⟩ := typed_losses ht0
  obtain rfl : a0 = s0 := by simpa using e0
  obtain ⟨c, hb⟩ : ∃ c, Tryd.f5.body = some c := ⟨_, rfl⟩
  refine (calls_of mixed noIntr W #[v0] Tryd.func5 hb (by decide) (fun k => .undef _) (.cons hr0 .nil) (t5 ls0 hls0 a0 hs0 st0)).mono fun e W' ⟨he, bel⟩ => ?_
  subst he
  exact ⟨_, rfl, _, _, _, [], _, [], hW', trodAll_mk1 (shut_bool Tryd.underlying4 _), (trodAll_cons_mk (Below.trod laidOut (by kernel_rfl) (of_decide_eq_true (by kernel_rfl)) k0 bel lt0) trodAll_mk0), rfl, bel.frame _, fun h => by cases h⟩
theorem lossBack_holds : Rows.LossBackSaid :=
  OpenClaim.holds_of_wide 5 Tryd.f5 rfl rfl rfl rfl rfl rfl rfl ⟨rfl, rfl, rfl, rfl, rfl⟩ rfl rfl rfl rfl rfl (by kernel_rfl) Tryd.func5 (by kernel_rfl)
    (of_decide_eq_true (by kernel_rfl)) (by unfold Func.isWrapper; first | (rw [if_pos (by decide +kernel)]; kernel_rfl) | (rw [if_neg (by decide +kernel)]; exact ⟨rfl, rfl⟩))
    (fun os started H enc _ => liftedLossBack os started H enc)
/-- LossBack: the tied card. -/
theorem lossBackCard_holds : Rows.LossBackCardSaid :=
  Claim7.holds_tied_plain_at .later [] [.data, .data, .data] true (true, "805ac8c59633b355058f1cc04e43d11d912974a11f68fc850af7ea94ef25180b") false
    lossBack_holds (fun _ h => by cases h) (by kernel_rfl) (fun _ h => by cases h) lossBack_row_tie rfl ⟨rfl, rfl⟩ (by kernel_rfl) rfl
    (fun f fn hf hfn => by
      obtain rfl : f = 5 := Option.some.inj ((show Tryd.prog.funcNamed "gantline/gantlinelaw15.LossBack" = some 5 by kernel_rfl).symm.trans hf) |>.symm
      obtain rfl : fn = Tryd.f5 := (Option.some.inj (Tryd.func5.symm.trans hfn)).symm
      exact ⟨by kernel_rfl, fun j t ht => by
        rw [Tryd.params5] at ht
        have hm : t ∈ [22] := by simpa using Array.mem_of_getElem? ht
        have hall : ([22].all fun u => !Tryd.prog.wantsStandIn u) = true := by kernel_rfl
        exact (show Tryd.prog.wantsStandIn t = false by simpa using List.all_eq_true.1 hall t hm)⟩)
    (by kernel_rfl)
end Go.Proofs.YtiknkngdfdmkbaaDoor
