import Derived.JoinedCond
import Derived.Deep.CondSized
import Derived.Test.YtfphpjinimfhfaaVMJ29
import Derived.Test.YtfphpjinimfhfaaVMJ11
namespace Go.Proofs.Ytfphpjinimfhfaa
open Go.Proofs.Ytfphpjinimfhfaa.VM Go.ChangeShapes Go.WideShapes Go.ChangeAt Go.RowKit
set_option maxRecDepth 100000
set_option linter.unusedVariables false
theorem bulkU_list {H : Type} : ∀ es : List (DataW H), (es.map Rows.uptoBulk).sum = Rows.uptoBulkAll es
  | [] => by simp [Rows.uptoBulkAll]
  | x :: r => by simp [Rows.uptoBulkAll, bulkU_list r]
theorem bulkU {H : Type} : Bulk (Rows.uptoBulk : DataW H → Nat) :=
  ⟨fun bs => by simp [Rows.uptoBulk], fun es sp => by rw [bulkU_list]; simp only [Rows.uptoBulk]; omega, fun ps => by rw [bulkU_list]; simp only [Rows.uptoBulk]; omega⟩
theorem liftedJlexBackU (os : Os) (started : os.Started) (H : Type) (enc : TypeId × Value → H) (F : Stop.Interp) :
    ReturnsInHanded {} Try.checked os 7 .any ((Rows.OpenSpec.upto Rows.jlexBackSpec).pre6 enc Try.prog Try.f7 Rows.jlexBackUptoRow.domain false) (((Rows.OpenSpec.upto Rows.jlexBackSpec).at F).post enc Try.prog Try.f7 false true false false) := by
  refine returnsInHanded_of_cond_sized (C := Try.checked) (s := Rows.OpenSpec.upto Rows.jlexBackSpec) (k := Rows.uptoSmall) rfl own started (by kernel_rfl) Try.func7
    (OpenSpec.witness (enc := enc) (C := Try.checked) (s := Rows.OpenSpec.upto Rows.jlexBackSpec) (k := Rows.uptoSmall) rfl false ⟨#[], #[.string ⟨#[]⟩], []⟩ 8 (by kernel_rfl) (by kernel_rfl) (by kernel_rfl) (x := ([.lit (.string [])], [], [])) (by kernel_rfl) rfl (by kernel_rfl)) ?_
  intro W base args ds gs before hval0 hW hcnd hkU hsz0 _
  show Calls Try.prog 7 args W fun e W' => ∃ v, e = .returned v ∧ Rows.jlexBackSpec.post enc Try.prog Try.f7 false true false false W args v W'
  have hkb : Rows.uptoBulkAll (ds ++ gs) ≤ 1048576 := of_decide_eq_true hkU
  clear hkU
  have hsz : (DataW.weightsEach Try.prog (Try.f7.params.toList ++ Rows.jlexBackSpec.plain.varTypes Try.prog) (ds ++ gs)).all (· ≤ reachBytes) = true := hsz0
  have hW' := hW
  obtain ⟨p, q, hA0, hV, rfl, hfz, hnd⟩ := hW
  have hA : DataW.TrodAll enc Try.prog W 0 (fun _ => true) true Try.f7.params.toList args.toList ds p := hA0
  rw [Try.params7] at hA
  obtain ⟨v0, vs0, d0, ds0, p0, q0, hargs, rfl, rfl, k0, r0⟩ := trodAll_cons hA
  obtain ⟨rfl, rfl, rfl⟩ := trodAll_nil r0
  obtain rfl : args = #[v0] := by cases args; simp_all
  obtain ⟨rfl, rfl⟩ := trodVars_none hV
  have hval : ∀ (j : Nat) t v, Try.f7.params[j]? = some t → (#[v0] : Array Value)[j]? = some v → Value.okWide Try.prog W .any base t v := hval0
  rw [Try.params7] at hval
  have lt0 : ∀ x ∈ p0, x.block < W.heap.size := by obtain ⟨m, hm⟩ := k0; exact DataW.trod_lt m _ _ _ hm
  obtain ⟨s0, hl0, hb0, hr0⟩ := arg_string bulkU Try.underlying9 (hval 0 9 v0 rfl rfl) k0 (light_of hsz 0 rfl rfl)
  simp only [List.cons_append, List.nil_append, List.append_nil, Rows.uptoBulkAll] at hkb
  obtain ⟨c, hb⟩ : ∃ c, Try.f7.body = some c := ⟨_, rfl⟩
  refine (calls_of mixed (intrOK false) W #[v0] Try.func7 hb (by decide) (fun k => .undef _) trivial (.cons hr0 .nil) (t7 s0 (by omega) st0)).mono fun e W' ⟨he, bel⟩ => ?_
  subst he
  exact ⟨_, rfl, _, _, _, [], _, [], hW', trodAll_mk1 (shut_bool Try.underlying4 _), (trodAll_cons_mk (Below.trod laidOut (by kernel_rfl) (of_decide_eq_true (by kernel_rfl)) k0 bel lt0) trodAll_mk0), rfl, bel.frame _, fun h => by cases h⟩
theorem jlexBackUpto_holds : Rows.JlexBackUptoSaid :=
  OpenClaim.holds_of_cond 7 Try.f7 rfl rfl rfl rfl rfl rfl rfl ⟨rfl, rfl, rfl, rfl, rfl⟩ rfl rfl rfl rfl rfl (by kernel_rfl) Try.func7 (by kernel_rfl)
    (of_decide_eq_true (by kernel_rfl)) (by unfold Func.isWrapper; first | (rw [if_pos (by decide +kernel)]; kernel_rfl) | (rw [if_neg (by decide +kernel)]; exact ⟨rfl, rfl⟩))
    (fun os started H enc _ F => liftedJlexBackU os started H enc F)
end Go.Proofs.Ytfphpjinimfhfaa
