import Derived.Test.YtmkmakokgfigoaaDoorVMO14
namespace Go.Proofs.YtmkmakokgfigoaaDoor
open Go.Proofs.YtmkmakokgfigoaaDoor.VM
set_option maxRecDepth 100000
set_option linter.unusedVariables false
set_option maxHeartbeats 1000000

def Nd.cs : Nd → List AV
  | .mk kind n neg dg ex tx fb bs fk keys fd kids => [.int .i64 kind, .int .u64 n, .bool neg, .str dg, .int .i64 ex, .str tx, slV fb (bs.map u8), slV fk (Nd.vs keys), slV fd (Nd.vs kids)]
def stepN : Nd → Int → Option Nd
  | .mk kind _ _ _ _ _ _ _ _ keys _ kids, k => if kind = 8 then (if k < 0 then none else if k % 2 = 0 then keys[(k / 2).toNat]? else kids[(k / 2).toNat]?)
    else if kind = 7 ∨ kind = 9 then (if k < 0 then none else kids[k.toNat]?) else none
def stepV : Option Nd → AV
  | some y => .tuple [.cptr y.cs 0, .bool true]
  | none => .tuple [.nul, .bool false]
theorem half {k : Int} (h : 0 ≤ k) (h2 : k < 2 ^ 63) : IntKind.i64.wrap (k.tdiv 2) = k / 2 := by
  rw [Int.tdiv_eq_ediv_of_nonneg h, wrap_i64 (by omega) (by omega)]
theorem odd {k : Int} (h : 0 ≤ k) : k.tmod 2 = k % 2 := Int.tmod_eq_emod_of_nonneg h

theorem t44 (x : Nd) (hx : x.Ok) (k : Int) (h1 : -2 ^ 63 ≤ k) (h2 : k < 2 ^ 63) (S : St) : CallQ Tryd.prog TC 44 [.cptr x.cs 0, .int .i64 k] S fun r S1 => r = stepV (stepN x k) ∧ S1 = S := by
  obtain ⟨kind, n, neg, dg, ex, tx, fb, bs, fk, keys, fd, kids⟩ := x
  obtain ⟨x1, x2, x3, x4, x5, x6, x7, x8⟩ := hx
  refine CallQ.of rfl (by kernel_rfl : Tryd.prog.funcs[44]? = some Tryd.f44) rfl (by decide) ?_
  rcases fk with _ | tk <;> rcases fd with _ | td
  · conv => whnf
    intro c hc
    cases c
    rotate_left
    · have hk : kind = 8 := by simpa using hc
      conv => whnf
      refine ⟨by decide, ?_⟩
      conv => whnf
      intro c3 hc3
      cases c3
      · conv => whnf
        intro c4 hc4
        cases c4
        · have hp : 0 ≤ k := by simpa using hc4
          have hm : ¬ k % 2 = 0 := by rw [← odd hp]; simpa using hc3
          conv => whnf
          refine ⟨by decide, ?_⟩
          rw [half hp h2]
          conv => whnf
          intro c5 hc5
          obtain rfl : c5 = false := by rw [hc5]; exact decide_eq_false (by omega)
          conv => whnf
          intro c6 hc6
          obtain rfl : c6 = true := by rw [hc6]; exact decide_eq_true (by show (0 : Int) ≤ _; omega)
          conv => whnf
          refine ⟨?_, rfl⟩
          rw [show stepN (.mk kind n neg dg ex tx fb bs _ keys _ kids) k = kids[(k / 2).toNat]? by simp [stepN, hk, hm, show ¬ k < 0 by omega], List.getElem?_eq_none (by rw [x3 rfl]; simp)]
          rfl
        · have hp : k < 0 := by simpa using hc4
          conv => whnf
          refine ⟨?_, rfl⟩
          rw [show stepN (.mk kind n neg dg ex tx fb bs _ keys _ kids) k = none by simp [stepN, hk, hp]]
          rfl
      · conv => whnf
        intro c4 hc4
        cases c4
        · have hp : 0 ≤ k := by simpa using hc4
          have hm : k % 2 = 0 := by rw [← odd hp]; simpa using hc3
          conv => whnf
          refine ⟨by decide, ?_⟩
          rw [half hp h2]
          conv => whnf
          intro c5 hc5
          obtain rfl : c5 = false := by rw [hc5]; exact decide_eq_false (by omega)
          conv => whnf
          intro c6 hc6
          obtain rfl : c6 = true := by rw [hc6]; exact decide_eq_true (by show (0 : Int) ≤ _; omega)
          conv => whnf
          refine ⟨?_, rfl⟩
          rw [show stepN (.mk kind n neg dg ex tx fb bs _ keys _ kids) k = keys[(k / 2).toNat]? by simp [stepN, hk, hm, show ¬ k < 0 by omega], List.getElem?_eq_none (by rw [x2 rfl]; simp)]
          rfl
        · have hp : k < 0 := by simpa using hc4
          conv => whnf
          refine ⟨?_, rfl⟩
          rw [show stepN (.mk kind n neg dg ex tx fb bs _ keys _ kids) k = none by simp [stepN, hk, hp]]
          rfl
    have hk : kind ≠ 8 := by simpa using hc
    conv => whnf
    intro c2 hc2
    have key : ∀ b : Bool, b = decide (kind = 7 ∨ kind = 9) → stepN (.mk kind n neg dg ex tx fb bs (.nil) keys (.nil) kids) k = if b = true then (if k < 0 then none else kids[k.toNat]?) else none := by
      intro b hb
      rw [hb]
      simp [stepN, hk]
    cases c2
    rotate_left
    · have hk7 : kind = 7 := by simpa using hc2
      conv => whnf
      intro c5 hc5
      cases c5
      rotate_left
      · have hp : k < 0 := by simpa using hc5
        conv => whnf
        refine ⟨?_, rfl⟩
        rw [show stepN (.mk kind n neg dg ex tx fb bs _ keys _ kids) k = none by rw [key true (by simp [hk7])]; simp [hp]]
        rfl
      have hp : 0 ≤ k := by simpa using hc5
      conv => whnf
      intro c6 hc6
      obtain rfl : c6 = true := by rw [hc6]; exact decide_eq_true (by show (0 : Int) ≤ _; omega)
      conv => whnf
      refine ⟨?_, rfl⟩
      rw [show stepN (.mk kind n neg dg ex tx fb bs _ keys _ kids) k = kids[(k).toNat]? by rw [key true (by simp [hk7])]; simp [show ¬ k < 0 by omega], List.getElem?_eq_none (by rw [x3 rfl]; simp)]
      rfl
    have hk7 : kind ≠ 7 := by simpa using hc2
    conv => whnf
    intro c2 hc2
    cases c2
    rotate_left
    · have hk9 : kind = 9 := by simpa using hc2
      conv => whnf
      intro c5 hc5
      cases c5
      rotate_left
      · have hp : k < 0 := by simpa using hc5
        conv => whnf
        refine ⟨?_, rfl⟩
        rw [show stepN (.mk kind n neg dg ex tx fb bs _ keys _ kids) k = none by rw [key true (by simp [hk9])]; simp [hp]]
        rfl
      have hp : 0 ≤ k := by simpa using hc5
      conv => whnf
      intro c6 hc6
      obtain rfl : c6 = true := by rw [hc6]; exact decide_eq_true (by show (0 : Int) ≤ _; omega)
      conv => whnf
      refine ⟨?_, rfl⟩
      rw [show stepN (.mk kind n neg dg ex tx fb bs _ keys _ kids) k = kids[(k).toNat]? by rw [key true (by simp [hk9])]; simp [show ¬ k < 0 by omega], List.getElem?_eq_none (by rw [x3 rfl]; simp)]
      rfl
    have hk9 : kind ≠ 9 := by simpa using hc2
    conv => whnf
    refine ⟨?_, rfl⟩
    rw [show stepN (.mk kind n neg dg ex tx fb bs _ keys _ kids) k = none by rw [key false (by simp [hk7, hk9])]; simp]
    rfl
  · conv => whnf
    intro c hc
    cases c
    rotate_left
    · have hk : kind = 8 := by simpa using hc
      conv => whnf
      refine ⟨by decide, ?_⟩
      conv => whnf
      intro c3 hc3
      cases c3
      · conv => whnf
        intro c4 hc4
        cases c4
        · have hp : 0 ≤ k := by simpa using hc4
          have hm : ¬ k % 2 = 0 := by rw [← odd hp]; simpa using hc3
          conv => whnf
          refine ⟨by decide, ?_⟩
          rw [half hp h2]
          conv => whnf
          intro c5 hc5
          obtain rfl : c5 = false := by rw [hc5]; exact decide_eq_false (by omega)
          conv => whnf
          intro c6 hc6
          cases c6
          · have hlt : (k / 2).toNat < kids.length := by
              have : ¬ (((k / 2) : Int) ≥ ((Nd.vs kids).length : Nat)) := by simpa using hc6
              rw [vs_len] at this; omega
            conv => whnf
            have g1 := vs_at hlt
            have g0 : kids[(k / 2).toNat]? = some kids[(k / 2).toNat] := List.getElem?_eq_getElem hlt
            generalize kids[(k / 2).toNat] = y at *
            obtain ⟨kind', n', neg', dg', ex', tx', fb', bs', fk', keys', fd', kids'⟩ := y
            refine ⟨by omega, _, g1, rfl, ?_⟩
            conv => whnf
            refine ⟨?_, rfl⟩
            rw [show stepN (.mk kind n neg dg ex tx fb bs _ keys _ kids) k = kids[(k / 2).toNat]? by simp [stepN, hk, hm, show ¬ k < 0 by omega], g0]
            rfl
          · have hge : kids.length ≤ (k / 2).toNat := by
              have : (((k / 2) : Int) ≥ ((Nd.vs kids).length : Nat)) := by simpa using hc6
              rw [vs_len] at this; omega
            conv => whnf
            refine ⟨?_, rfl⟩
            rw [show stepN (.mk kind n neg dg ex tx fb bs _ keys _ kids) k = kids[(k / 2).toNat]? by simp [stepN, hk, hm, show ¬ k < 0 by omega], List.getElem?_eq_none (by exact hge)]
            rfl
        · have hp : k < 0 := by simpa using hc4
          conv => whnf
          refine ⟨?_, rfl⟩
          rw [show stepN (.mk kind n neg dg ex tx fb bs _ keys _ kids) k = none by simp [stepN, hk, hp]]
          rfl
      · conv => whnf
        intro c4 hc4
        cases c4
        · have hp : 0 ≤ k := by simpa using hc4
          have hm : k % 2 = 0 := by rw [← odd hp]; simpa using hc3
          conv => whnf
          refine ⟨by decide, ?_⟩
          rw [half hp h2]
          conv => whnf
          intro c5 hc5
          obtain rfl : c5 = false := by rw [hc5]; exact decide_eq_false (by omega)
          conv => whnf
          intro c6 hc6
          obtain rfl : c6 = true := by rw [hc6]; exact decide_eq_true (by show (0 : Int) ≤ _; omega)
          conv => whnf
          refine ⟨?_, rfl⟩
          rw [show stepN (.mk kind n neg dg ex tx fb bs _ keys _ kids) k = keys[(k / 2).toNat]? by simp [stepN, hk, hm, show ¬ k < 0 by omega], List.getElem?_eq_none (by rw [x2 rfl]; simp)]
          rfl
        · have hp : k < 0 := by simpa using hc4
          conv => whnf
          refine ⟨?_, rfl⟩
          rw [show stepN (.mk kind n neg dg ex tx fb bs _ keys _ kids) k = none by simp [stepN, hk, hp]]
          rfl
    have hk : kind ≠ 8 := by simpa using hc
    conv => whnf
    intro c2 hc2
    have key : ∀ b : Bool, b = decide (kind = 7 ∨ kind = 9) → stepN (.mk kind n neg dg ex tx fb bs (.nil) keys (.lst td) kids) k = if b = true then (if k < 0 then none else kids[k.toNat]?) else none := by
      intro b hb
      rw [hb]
      simp [stepN, hk]
    cases c2
    rotate_left
    · have hk7 : kind = 7 := by simpa using hc2
      conv => whnf
      intro c5 hc5
      cases c5
      rotate_left
      · have hp : k < 0 := by simpa using hc5
        conv => whnf
        refine ⟨?_, rfl⟩
        rw [show stepN (.mk kind n neg dg ex tx fb bs _ keys _ kids) k = none by rw [key true (by simp [hk7])]; simp [hp]]
        rfl
      have hp : 0 ≤ k := by simpa using hc5
      conv => whnf
      intro c6 hc6
      cases c6
      · have hlt : (k).toNat < kids.length := by
          have : ¬ (((k) : Int) ≥ ((Nd.vs kids).length : Nat)) := by simpa using hc6
          rw [vs_len] at this; omega
        conv => whnf
        have g1 := vs_at hlt
        have g0 : kids[(k).toNat]? = some kids[(k).toNat] := List.getElem?_eq_getElem hlt
        generalize kids[(k).toNat] = y at *
        obtain ⟨kind', n', neg', dg', ex', tx', fb', bs', fk', keys', fd', kids'⟩ := y
        refine ⟨by omega, _, g1, rfl, ?_⟩
        conv => whnf
        refine ⟨?_, rfl⟩
        rw [show stepN (.mk kind n neg dg ex tx fb bs _ keys _ kids) k = kids[(k).toNat]? by rw [key true (by simp [hk7])]; simp [show ¬ k < 0 by omega], g0]
        rfl
      · have hge : kids.length ≤ (k).toNat := by
          have : (((k) : Int) ≥ ((Nd.vs kids).length : Nat)) := by simpa using hc6
          rw [vs_len] at this; omega
        conv => whnf
        refine ⟨?_, rfl⟩
        rw [show stepN (.mk kind n neg dg ex tx fb bs _ keys _ kids) k = kids[(k).toNat]? by rw [key true (by simp [hk7])]; simp [show ¬ k < 0 by omega], List.getElem?_eq_none (by exact hge)]
        rfl
    have hk7 : kind ≠ 7 := by simpa using hc2
    conv => whnf
    intro c2 hc2
    cases c2
    rotate_left
    · have hk9 : kind = 9 := by simpa using hc2
      conv => whnf
      intro c5 hc5
      cases c5
      rotate_left
      · have hp : k < 0 := by simpa using hc5
        conv => whnf
        refine ⟨?_, rfl⟩
        rw [show stepN (.mk kind n neg dg ex tx fb bs _ keys _ kids) k = none by rw [key true (by simp [hk9])]; simp [hp]]
        rfl
      have hp : 0 ≤ k := by simpa using hc5
      conv => whnf
      intro c6 hc6
      cases c6
      · have hlt : (k).toNat < kids.length := by
          have : ¬ (((k) : Int) ≥ ((Nd.vs kids).length : Nat)) := by simpa using hc6
          rw [vs_len] at this; omega
        conv => whnf
        have g1 := vs_at hlt
        have g0 : kids[(k).toNat]? = some kids[(k).toNat] := List.getElem?_eq_getElem hlt
        generalize kids[(k).toNat] = y at *
        obtain ⟨kind', n', neg', dg', ex', tx', fb', bs', fk', keys', fd', kids'⟩ := y
        refine ⟨by omega, _, g1, rfl, ?_⟩
        conv => whnf
        refine ⟨?_, rfl⟩
        rw [show stepN (.mk kind n neg dg ex tx fb bs _ keys _ kids) k = kids[(k).toNat]? by rw [key true (by simp [hk9])]; simp [show ¬ k < 0 by omega], g0]
        rfl
      · have hge : kids.length ≤ (k).toNat := by
          have : (((k) : Int) ≥ ((Nd.vs kids).length : Nat)) := by simpa using hc6
          rw [vs_len] at this; omega
        conv => whnf
        refine ⟨?_, rfl⟩
        rw [show stepN (.mk kind n neg dg ex tx fb bs _ keys _ kids) k = kids[(k).toNat]? by rw [key true (by simp [hk9])]; simp [show ¬ k < 0 by omega], List.getElem?_eq_none (by exact hge)]
        rfl
    have hk9 : kind ≠ 9 := by simpa using hc2
    conv => whnf
    refine ⟨?_, rfl⟩
    rw [show stepN (.mk kind n neg dg ex tx fb bs _ keys _ kids) k = none by rw [key false (by simp [hk7, hk9])]; simp]
    rfl
  · conv => whnf
    intro c hc
    cases c
    rotate_left
    · have hk : kind = 8 := by simpa using hc
      conv => whnf
      refine ⟨by decide, ?_⟩
      conv => whnf
      intro c3 hc3
      cases c3
      · conv => whnf
        intro c4 hc4
        cases c4
        · have hp : 0 ≤ k := by simpa using hc4
          have hm : ¬ k % 2 = 0 := by rw [← odd hp]; simpa using hc3
          conv => whnf
          refine ⟨by decide, ?_⟩
          rw [half hp h2]
          conv => whnf
          intro c5 hc5
          obtain rfl : c5 = false := by rw [hc5]; exact decide_eq_false (by omega)
          conv => whnf
          intro c6 hc6
          obtain rfl : c6 = true := by rw [hc6]; exact decide_eq_true (by show (0 : Int) ≤ _; omega)
          conv => whnf
          refine ⟨?_, rfl⟩
          rw [show stepN (.mk kind n neg dg ex tx fb bs _ keys _ kids) k = kids[(k / 2).toNat]? by simp [stepN, hk, hm, show ¬ k < 0 by omega], List.getElem?_eq_none (by rw [x3 rfl]; simp)]
          rfl
        · have hp : k < 0 := by simpa using hc4
          conv => whnf
          refine ⟨?_, rfl⟩
          rw [show stepN (.mk kind n neg dg ex tx fb bs _ keys _ kids) k = none by simp [stepN, hk, hp]]
          rfl
      · conv => whnf
        intro c4 hc4
        cases c4
        · have hp : 0 ≤ k := by simpa using hc4
          have hm : k % 2 = 0 := by rw [← odd hp]; simpa using hc3
          conv => whnf
          refine ⟨by decide, ?_⟩
          rw [half hp h2]
          conv => whnf
          intro c5 hc5
          obtain rfl : c5 = false := by rw [hc5]; exact decide_eq_false (by omega)
          conv => whnf
          intro c6 hc6
          cases c6
          · have hlt : (k / 2).toNat < keys.length := by
              have : ¬ (((k / 2) : Int) ≥ ((Nd.vs keys).length : Nat)) := by simpa using hc6
              rw [vs_len] at this; omega
            conv => whnf
            have g1 := vs_at hlt
            have g0 : keys[(k / 2).toNat]? = some keys[(k / 2).toNat] := List.getElem?_eq_getElem hlt
            generalize keys[(k / 2).toNat] = y at *
            obtain ⟨kind', n', neg', dg', ex', tx', fb', bs', fk', keys', fd', kids'⟩ := y
            refine ⟨by omega, _, g1, rfl, ?_⟩
            conv => whnf
            refine ⟨?_, rfl⟩
            rw [show stepN (.mk kind n neg dg ex tx fb bs _ keys _ kids) k = keys[(k / 2).toNat]? by simp [stepN, hk, hm, show ¬ k < 0 by omega], g0]
            rfl
          · have hge : keys.length ≤ (k / 2).toNat := by
              have : (((k / 2) : Int) ≥ ((Nd.vs keys).length : Nat)) := by simpa using hc6
              rw [vs_len] at this; omega
            conv => whnf
            refine ⟨?_, rfl⟩
            rw [show stepN (.mk kind n neg dg ex tx fb bs _ keys _ kids) k = keys[(k / 2).toNat]? by simp [stepN, hk, hm, show ¬ k < 0 by omega], List.getElem?_eq_none (by exact hge)]
            rfl
        · have hp : k < 0 := by simpa using hc4
          conv => whnf
          refine ⟨?_, rfl⟩
          rw [show stepN (.mk kind n neg dg ex tx fb bs _ keys _ kids) k = none by simp [stepN, hk, hp]]
          rfl
    have hk : kind ≠ 8 := by simpa using hc
    conv => whnf
    intro c2 hc2
    have key : ∀ b : Bool, b = decide (kind = 7 ∨ kind = 9) → stepN (.mk kind n neg dg ex tx fb bs (.lst tk) keys (.nil) kids) k = if b = true then (if k < 0 then none else kids[k.toNat]?) else none := by
      intro b hb
      rw [hb]
      simp [stepN, hk]
    cases c2
    rotate_left
    · have hk7 : kind = 7 := by simpa using hc2
      conv => whnf
      intro c5 hc5
      cases c5
      rotate_left
      · have hp : k < 0 := by simpa using hc5
        conv => whnf
        refine ⟨?_, rfl⟩
        rw [show stepN (.mk kind n neg dg ex tx fb bs _ keys _ kids) k = none by rw [key true (by simp [hk7])]; simp [hp]]
        rfl
      have hp : 0 ≤ k := by simpa using hc5
      conv => whnf
      intro c6 hc6
      obtain rfl : c6 = true := by rw [hc6]; exact decide_eq_true (by show (0 : Int) ≤ _; omega)
      conv => whnf
      refine ⟨?_, rfl⟩
      rw [show stepN (.mk kind n neg dg ex tx fb bs _ keys _ kids) k = kids[(k).toNat]? by rw [key true (by simp [hk7])]; simp [show ¬ k < 0 by omega], List.getElem?_eq_none (by rw [x3 rfl]; simp)]
      rfl
    have hk7 : kind ≠ 7 := by simpa using hc2
    conv => whnf
    intro c2 hc2
    cases c2
    rotate_left
    · have hk9 : kind = 9 := by simpa using hc2
      conv => whnf
      intro c5 hc5
      cases c5
      rotate_left
      · have hp : k < 0 := by simpa using hc5
        conv => whnf
        refine ⟨?_, rfl⟩
        rw [show stepN (.mk kind n neg dg ex tx fb bs _ keys _ kids) k = none by rw [key true (by simp [hk9])]; simp [hp]]
        rfl
      have hp : 0 ≤ k := by simpa using hc5
      conv => whnf
      intro c6 hc6
      obtain rfl : c6 = true := by rw [hc6]; exact decide_eq_true (by show (0 : Int) ≤ _; omega)
      conv => whnf
      refine ⟨?_, rfl⟩
      rw [show stepN (.mk kind n neg dg ex tx fb bs _ keys _ kids) k = kids[(k).toNat]? by rw [key true (by simp [hk9])]; simp [show ¬ k < 0 by omega], List.getElem?_eq_none (by rw [x3 rfl]; simp)]
      rfl
    have hk9 : kind ≠ 9 := by simpa using hc2
    conv => whnf
    refine ⟨?_, rfl⟩
    rw [show stepN (.mk kind n neg dg ex tx fb bs _ keys _ kids) k = none by rw [key false (by simp [hk7, hk9])]; simp]
    rfl
  · conv => whnf
    intro c hc
    cases c
    rotate_left
    · have hk : kind = 8 := by simpa using hc
      conv => whnf
      refine ⟨by decide, ?_⟩
      conv => whnf
      intro c3 hc3
      cases c3
      · conv => whnf
        intro c4 hc4
        cases c4
        · have hp : 0 ≤ k := by simpa using hc4
          have hm : ¬ k % 2 = 0 := by rw [← odd hp]; simpa using hc3
          conv => whnf
          refine ⟨by decide, ?_⟩
          rw [half hp h2]
          conv => whnf
          intro c5 hc5
          obtain rfl : c5 = false := by rw [hc5]; exact decide_eq_false (by omega)
          conv => whnf
          intro c6 hc6
          cases c6
          · have hlt : (k / 2).toNat < kids.length := by
              have : ¬ (((k / 2) : Int) ≥ ((Nd.vs kids).length : Nat)) := by simpa using hc6
              rw [vs_len] at this; omega
            conv => whnf
            have g1 := vs_at hlt
            have g0 : kids[(k / 2).toNat]? = some kids[(k / 2).toNat] := List.getElem?_eq_getElem hlt
            generalize kids[(k / 2).toNat] = y at *
            obtain ⟨kind', n', neg', dg', ex', tx', fb', bs', fk', keys', fd', kids'⟩ := y
            refine ⟨by omega, _, g1, rfl, ?_⟩
            conv => whnf
            refine ⟨?_, rfl⟩
            rw [show stepN (.mk kind n neg dg ex tx fb bs _ keys _ kids) k = kids[(k / 2).toNat]? by simp [stepN, hk, hm, show ¬ k < 0 by omega], g0]
            rfl
          · have hge : kids.length ≤ (k / 2).toNat := by
              have : (((k / 2) : Int) ≥ ((Nd.vs kids).length : Nat)) := by simpa using hc6
              rw [vs_len] at this; omega
            conv => whnf
            refine ⟨?_, rfl⟩
            rw [show stepN (.mk kind n neg dg ex tx fb bs _ keys _ kids) k = kids[(k / 2).toNat]? by simp [stepN, hk, hm, show ¬ k < 0 by omega], List.getElem?_eq_none (by exact hge)]
            rfl
        · have hp : k < 0 := by simpa using hc4
          conv => whnf
          refine ⟨?_, rfl⟩
          rw [show stepN (.mk kind n neg dg ex tx fb bs _ keys _ kids) k = none by simp [stepN, hk, hp]]
          rfl
      · conv => whnf
        intro c4 hc4
        cases c4
        · have hp : 0 ≤ k := by simpa using hc4
          have hm : k % 2 = 0 := by rw [← odd hp]; simpa using hc3
          conv => whnf
          refine ⟨by decide, ?_⟩
          rw [half hp h2]
          conv => whnf
          intro c5 hc5
          obtain rfl : c5 = false := by rw [hc5]; exact decide_eq_false (by omega)
          conv => whnf
          intro c6 hc6
          cases c6
          · have hlt : (k / 2).toNat < keys.length := by
              have : ¬ (((k / 2) : Int) ≥ ((Nd.vs keys).length : Nat)) := by simpa using hc6
              rw [vs_len] at this; omega
            conv => whnf
            have g1 := vs_at hlt
            have g0 : keys[(k / 2).toNat]? = some keys[(k / 2).toNat] := List.getElem?_eq_getElem hlt
            generalize keys[(k / 2).toNat] = y at *
            obtain ⟨kind', n', neg', dg', ex', tx', fb', bs', fk', keys', fd', kids'⟩ := y
            refine ⟨by omega, _, g1, rfl, ?_⟩
            conv => whnf
            refine ⟨?_, rfl⟩
            rw [show stepN (.mk kind n neg dg ex tx fb bs _ keys _ kids) k = keys[(k / 2).toNat]? by simp [stepN, hk, hm, show ¬ k < 0 by omega], g0]
            rfl
          · have hge : keys.length ≤ (k / 2).toNat := by
              have : (((k / 2) : Int) ≥ ((Nd.vs keys).length : Nat)) := by simpa using hc6
              rw [vs_len] at this; omega
            conv => whnf
            refine ⟨?_, rfl⟩
            rw [show stepN (.mk kind n neg dg ex tx fb bs _ keys _ kids) k = keys[(k / 2).toNat]? by simp [stepN, hk, hm, show ¬ k < 0 by omega], List.getElem?_eq_none (by exact hge)]
            rfl
        · have hp : k < 0 := by simpa using hc4
          conv => whnf
          refine ⟨?_, rfl⟩
          rw [show stepN (.mk kind n neg dg ex tx fb bs _ keys _ kids) k = none by simp [stepN, hk, hp]]
          rfl
    have hk : kind ≠ 8 := by simpa using hc
    conv => whnf
    intro c2 hc2
    have key : ∀ b : Bool, b = decide (kind = 7 ∨ kind = 9) → stepN (.mk kind n neg dg ex tx fb bs (.lst tk) keys (.lst td) kids) k = if b = true then (if k < 0 then none else kids[k.toNat]?) else none := by
      intro b hb
      rw [hb]
      simp [stepN, hk]
    cases c2
    rotate_left
    · have hk7 : kind = 7 := by simpa using hc2
      conv => whnf
      intro c5 hc5
      cases c5
      rotate_left
      · have hp : k < 0 := by simpa using hc5
        conv => whnf
        refine ⟨?_, rfl⟩
        rw [show stepN (.mk kind n neg dg ex tx fb bs _ keys _ kids) k = none by rw [key true (by simp [hk7])]; simp [hp]]
        rfl
      have hp : 0 ≤ k := by simpa using hc5
      conv => whnf
      intro c6 hc6
      cases c6
      · have hlt : (k).toNat < kids.length := by
          have : ¬ (((k) : Int) ≥ ((Nd.vs kids).length : Nat)) := by simpa using hc6
          rw [vs_len] at this; omega
        conv => whnf
        have g1 := vs_at hlt
        have g0 : kids[(k).toNat]? = some kids[(k).toNat] := List.getElem?_eq_getElem hlt
        generalize kids[(k).toNat] = y at *
        obtain ⟨kind', n', neg', dg', ex', tx', fb', bs', fk', keys', fd', kids'⟩ := y
        refine ⟨by omega, _, g1, rfl, ?_⟩
        conv => whnf
        refine ⟨?_, rfl⟩
        rw [show stepN (.mk kind n neg dg ex tx fb bs _ keys _ kids) k = kids[(k).toNat]? by rw [key true (by simp [hk7])]; simp [show ¬ k < 0 by omega], g0]
        rfl
      · have hge : kids.length ≤ (k).toNat := by
          have : (((k) : Int) ≥ ((Nd.vs kids).length : Nat)) := by simpa using hc6
          rw [vs_len] at this; omega
        conv => whnf
        refine ⟨?_, rfl⟩
        rw [show stepN (.mk kind n neg dg ex tx fb bs _ keys _ kids) k = kids[(k).toNat]? by rw [key true (by simp [hk7])]; simp [show ¬ k < 0 by omega], List.getElem?_eq_none (by exact hge)]
        rfl
    have hk7 : kind ≠ 7 := by simpa using hc2
    conv => whnf
    intro c2 hc2
    cases c2
    rotate_left
    · have hk9 : kind = 9 := by simpa using hc2
      conv => whnf
      intro c5 hc5
      cases c5
      rotate_left
      · have hp : k < 0 := by simpa using hc5
        conv => whnf
        refine ⟨?_, rfl⟩
        rw [show stepN (.mk kind n neg dg ex tx fb bs _ keys _ kids) k = none by rw [key true (by simp [hk9])]; simp [hp]]
        rfl
      have hp : 0 ≤ k := by simpa using hc5
      conv => whnf
      intro c6 hc6
      cases c6
      · have hlt : (k).toNat < kids.length := by
          have : ¬ (((k) : Int) ≥ ((Nd.vs kids).length : Nat)) := by simpa using hc6
          rw [vs_len] at this; omega
        conv => whnf
        have g1 := vs_at hlt
        have g0 : kids[(k).toNat]? = some kids[(k).toNat] := List.getElem?_eq_getElem hlt
        generalize kids[(k).toNat] = y at *
        obtain ⟨kind', n', neg', dg', ex', tx', fb', bs', fk', keys', fd', kids'⟩ := y
        refine ⟨by omega, _, g1, rfl, ?_⟩
        conv => whnf
        refine ⟨?_, rfl⟩
        rw [show stepN (.mk kind n neg dg ex tx fb bs _ keys _ kids) k = kids[(k).toNat]? by rw [key true (by simp [hk9])]; simp [show ¬ k < 0 by omega], g0]
        rfl
      · have hge : kids.length ≤ (k).toNat := by
          have : (((k) : Int) ≥ ((Nd.vs kids).length : Nat)) := by simpa using hc6
          rw [vs_len] at this; omega
        conv => whnf
        refine ⟨?_, rfl⟩
        rw [show stepN (.mk kind n neg dg ex tx fb bs _ keys _ kids) k = kids[(k).toNat]? by rw [key true (by simp [hk9])]; simp [show ¬ k < 0 by omega], List.getElem?_eq_none (by exact hge)]
        rfl
    have hk9 : kind ≠ 9 := by simpa using hc2
    conv => whnf
    refine ⟨?_, rfl⟩
    rw [show stepN (.mk kind n neg dg ex tx fb bs _ keys _ kids) k = none by rw [key false (by simp [hk7, hk9])]; simp]
    rfl
end Go.Proofs.YtmkmakokgfigoaaDoor
namespace Go.Proofs.YtmkmakokgfigoaaDoor
open Go.Proofs.YtmkmakokgfigoaaDoor.VM
set_option maxRecDepth 100000
set_option linter.unusedVariables false
set_option maxHeartbeats 1000000

def Nd.keys : Nd → List Nd | .mk _ _ _ _ _ _ _ _ _ keys _ _ => keys
def Nd.kids : Nd → List Nd | .mk _ _ _ _ _ _ _ _ _ _ _ kids => kids
def WayOk (x : Nd) (k : Int) (r : AV) : Prop := ∃ (j : Int) (key ok : Bool), r = .tuple [.int .i64 j, .bool key, .bool ok] ∧ (ok = false → stepN x k = none) ∧ (ok = true → 0 ≤ j ∧ j < 2 ^ 63 ∧ ∃ y, stepN x k = some y ∧ (if key = true then x.keys else x.kids)[j.toNat]? = some y)
theorem way_in {x : Nd} {xs : List Nd} {k j : Int} {key ok : Bool} (h1 : stepN x k = xs[j.toNat]?) (h2 : (if key = true then x.keys else x.kids) = xs) (hj : 0 ≤ j) (hj2 : j < 2 ^ 63) (hok : ok = decide (j < (xs.length : Nat))) : WayOk x k (.tuple [.int .i64 j, .bool key, .bool ok]) := by
  refine ⟨j, key, ok, rfl, fun h => ?_, fun h => ?_⟩
  · rw [h1, List.getElem?_eq_none]
    have : ¬ (j < (xs.length : Nat)) := by rw [h] at hok; simpa using hok.symm
    omega
  · have : j < (xs.length : Nat) := by rw [h] at hok; simpa using hok.symm
    have hlt : j.toNat < xs.length := by omega
    exact ⟨hj, hj2, xs[j.toNat], by rw [h1, List.getElem?_eq_getElem hlt], by rw [h2, List.getElem?_eq_getElem hlt]⟩
theorem way_out {x : Nd} {k j : Int} {key : Bool} (h1 : stepN x k = none) : WayOk x k (.tuple [.int .i64 j, .bool key, .bool false]) :=
  ⟨j, key, false, rfl, fun _ => h1, fun h => by cases h⟩

theorem t47 (x : Nd) (hx : x.Ok) (k : Int) (h1 : -2 ^ 63 ≤ k) (h2 : k < 2 ^ 63) (S : St) : CallQ Tryd.prog TC 47 [x.v, .int .i64 k] S fun r S1 => WayOk x k r ∧ Keep S S1 := by
  obtain ⟨kind, n, neg, dg, ex, tx, fb, bs, fk, keys, fd, kids⟩ := x
  obtain ⟨x1, x2, x3, x4, x5, x6, x7, x8⟩ := hx
  refine CallQ.of rfl (by kernel_rfl : Tryd.prog.funcs[47]? = some Tryd.f47) rfl (by decide) ?_
  rcases fk with _ | tk <;> rcases fd with _ | td
  · conv => whnf
    intro c hc
    cases c
    rotate_left
    · have hp : k < 0 := by simpa using hc
      conv => whnf
      refine ⟨way_out (by simp [stepN, hp]), .refl _⟩
    have hp : 0 ≤ k := by simpa using hc
    have hp' : ¬ k < 0 := by omega
    conv => whnf
    intro c1 hc1
    cases c1
    rotate_left
    · have hk : kind = 8 := by simpa using hc1
      conv => whnf
      refine ⟨by decide, ?_⟩
      conv => whnf
      intro c3 hc3
      cases c3
      · have hm : ¬ k % 2 = 0 := by rw [← odd hp]; simpa using hc3
        conv => whnf
        intro c4 hc4
        obtain rfl : c4 = true := by rw [hc4]; exact decide_eq_true hk
        conv => whnf
        refine ⟨[0, 1, 2, 3, 4, 5, 6, 7, 8, 9, 10], [], by kernel_rfl, by kernel_rfl, by kernel_rfl, ?_⟩
        conv => whnf
        refine ⟨by decide, ?_⟩
        rw [half hp h2]
        conv => whnf
        refine ⟨by decide, ?_⟩
        rw [half hp h2]
        conv => whnf
        intro c6 hc6
        conv => whnf
        refine ⟨?_, .refl _⟩
        exact way_in (xs := kids) (by simp [stepN, hk, hm, hp']) rfl (by omega) (by omega) (by rw [hc6]; rw [x3 rfl]; rfl)
      · have hm : k % 2 = 0 := by rw [← odd hp]; simpa using hc3
        conv => whnf
        refine ⟨[0, 1, 2, 3, 4, 5, 6, 7, 8, 9, 10], [], by kernel_rfl, by kernel_rfl, by kernel_rfl, ?_⟩
        conv => whnf
        refine ⟨by decide, ?_⟩
        rw [half hp h2]
        conv => whnf
        refine ⟨by decide, ?_⟩
        rw [half hp h2]
        conv => whnf
        intro c6 hc6
        conv => whnf
        refine ⟨?_, .refl _⟩
        exact way_in (xs := keys) (by simp [stepN, hk, hm, hp']) rfl (by omega) (by omega) (by rw [hc6]; rw [x2 rfl]; rfl)
    have hk : kind ≠ 8 := by simpa using hc1
    conv => whnf
    intro c4 hc4
    obtain rfl : c4 = false := by rw [hc4]; exact decide_eq_false hk
    conv => whnf
    intro c5 hc5
    cases c5
    rotate_left
    · have hk7 : kind = 7 := by simpa using hc5
      conv => whnf
      refine ⟨[0, 1, 2, 3, 4, 5, 6, 7, 8], [], by kernel_rfl, by kernel_rfl, by kernel_rfl, ?_⟩
      conv => whnf
      intro c6 hc6
      conv => whnf
      refine ⟨?_, .refl _⟩
      exact way_in (xs := kids) (by simp [stepN, hk7, hp']) rfl (by omega) (by omega) (by rw [hc6]; rw [x3 rfl]; rfl)
    have hk7 : kind ≠ 7 := by simpa using hc5
    conv => whnf
    intro c5 hc5
    cases c5
    rotate_left
    · have hk9 : kind = 9 := by simpa using hc5
      conv => whnf
      refine ⟨[0, 1, 2, 3, 4, 5, 6, 7, 8], [], by kernel_rfl, by kernel_rfl, by kernel_rfl, ?_⟩
      conv => whnf
      intro c6 hc6
      conv => whnf
      refine ⟨?_, .refl _⟩
      exact way_in (xs := kids) (by simp [stepN, hk9, hp']) rfl (by omega) (by omega) (by rw [hc6]; rw [x3 rfl]; rfl)
    have hk9 : kind ≠ 9 := by simpa using hc5
    conv => whnf
    refine ⟨way_out (by simp [stepN, hk, hk7, hk9]), .refl _⟩
  · conv => whnf
    intro c hc
    cases c
    rotate_left
    · have hp : k < 0 := by simpa using hc
      conv => whnf
      refine ⟨way_out (by simp [stepN, hp]), .refl _⟩
    have hp : 0 ≤ k := by simpa using hc
    have hp' : ¬ k < 0 := by omega
    conv => whnf
    intro c1 hc1
    cases c1
    rotate_left
    · have hk : kind = 8 := by simpa using hc1
      conv => whnf
      refine ⟨by decide, ?_⟩
      conv => whnf
      intro c3 hc3
      cases c3
      · have hm : ¬ k % 2 = 0 := by rw [← odd hp]; simpa using hc3
        conv => whnf
        intro c4 hc4
        obtain rfl : c4 = true := by rw [hc4]; exact decide_eq_true hk
        conv => whnf
        refine ⟨[0, 1, 2, 3, 4, 5, 6, 7, 8, 9, 10], [], by kernel_rfl, by kernel_rfl, by kernel_rfl, ?_⟩
        conv => whnf
        refine ⟨by decide, ?_⟩
        rw [half hp h2]
        conv => whnf
        refine ⟨by decide, ?_⟩
        rw [half hp h2]
        conv => whnf
        intro c6 hc6
        conv => whnf
        refine ⟨?_, .refl _⟩
        exact way_in (xs := kids) (by simp [stepN, hk, hm, hp']) rfl (by omega) (by omega) (by rw [hc6]; rw [vs_len])
      · have hm : k % 2 = 0 := by rw [← odd hp]; simpa using hc3
        conv => whnf
        refine ⟨[0, 1, 2, 3, 4, 5, 6, 7, 8, 9, 10], [], by kernel_rfl, by kernel_rfl, by kernel_rfl, ?_⟩
        conv => whnf
        refine ⟨by decide, ?_⟩
        rw [half hp h2]
        conv => whnf
        refine ⟨by decide, ?_⟩
        rw [half hp h2]
        conv => whnf
        intro c6 hc6
        conv => whnf
        refine ⟨?_, .refl _⟩
        exact way_in (xs := keys) (by simp [stepN, hk, hm, hp']) rfl (by omega) (by omega) (by rw [hc6]; rw [x2 rfl]; rfl)
    have hk : kind ≠ 8 := by simpa using hc1
    conv => whnf
    intro c4 hc4
    obtain rfl : c4 = false := by rw [hc4]; exact decide_eq_false hk
    conv => whnf
    intro c5 hc5
    cases c5
    rotate_left
    · have hk7 : kind = 7 := by simpa using hc5
      conv => whnf
      refine ⟨[0, 1, 2, 3, 4, 5, 6, 7, 8], [], by kernel_rfl, by kernel_rfl, by kernel_rfl, ?_⟩
      conv => whnf
      intro c6 hc6
      conv => whnf
      refine ⟨?_, .refl _⟩
      exact way_in (xs := kids) (by simp [stepN, hk7, hp']) rfl (by omega) (by omega) (by rw [hc6]; rw [vs_len])
    have hk7 : kind ≠ 7 := by simpa using hc5
    conv => whnf
    intro c5 hc5
    cases c5
    rotate_left
    · have hk9 : kind = 9 := by simpa using hc5
      conv => whnf
      refine ⟨[0, 1, 2, 3, 4, 5, 6, 7, 8], [], by kernel_rfl, by kernel_rfl, by kernel_rfl, ?_⟩
      conv => whnf
      intro c6 hc6
      conv => whnf
      refine ⟨?_, .refl _⟩
      exact way_in (xs := kids) (by simp [stepN, hk9, hp']) rfl (by omega) (by omega) (by rw [hc6]; rw [vs_len])
    have hk9 : kind ≠ 9 := by simpa using hc5
    conv => whnf
    refine ⟨way_out (by simp [stepN, hk, hk7, hk9]), .refl _⟩
  · conv => whnf
    intro c hc
    cases c
    rotate_left
    · have hp : k < 0 := by simpa using hc
      conv => whnf
      refine ⟨way_out (by simp [stepN, hp]), .refl _⟩
    have hp : 0 ≤ k := by simpa using hc
    have hp' : ¬ k < 0 := by omega
    conv => whnf
    intro c1 hc1
    cases c1
    rotate_left
    · have hk : kind = 8 := by simpa using hc1
      conv => whnf
      refine ⟨by decide, ?_⟩
      conv => whnf
      intro c3 hc3
      cases c3
      · have hm : ¬ k % 2 = 0 := by rw [← odd hp]; simpa using hc3
        conv => whnf
        intro c4 hc4
        obtain rfl : c4 = true := by rw [hc4]; exact decide_eq_true hk
        conv => whnf
        refine ⟨[0, 1, 2, 3, 4, 5, 6, 7, 8, 9, 10], [], by kernel_rfl, by kernel_rfl, by kernel_rfl, ?_⟩
        conv => whnf
        refine ⟨by decide, ?_⟩
        rw [half hp h2]
        conv => whnf
        refine ⟨by decide, ?_⟩
        rw [half hp h2]
        conv => whnf
        intro c6 hc6
        conv => whnf
        refine ⟨?_, .refl _⟩
        exact way_in (xs := kids) (by simp [stepN, hk, hm, hp']) rfl (by omega) (by omega) (by rw [hc6]; rw [x3 rfl]; rfl)
      · have hm : k % 2 = 0 := by rw [← odd hp]; simpa using hc3
        conv => whnf
        refine ⟨[0, 1, 2, 3, 4, 5, 6, 7, 8, 9, 10], [], by kernel_rfl, by kernel_rfl, by kernel_rfl, ?_⟩
        conv => whnf
        refine ⟨by decide, ?_⟩
        rw [half hp h2]
        conv => whnf
        refine ⟨by decide, ?_⟩
        rw [half hp h2]
        conv => whnf
        intro c6 hc6
        conv => whnf
        refine ⟨?_, .refl _⟩
        exact way_in (xs := keys) (by simp [stepN, hk, hm, hp']) rfl (by omega) (by omega) (by rw [hc6]; rw [vs_len])
    have hk : kind ≠ 8 := by simpa using hc1
    conv => whnf
    intro c4 hc4
    obtain rfl : c4 = false := by rw [hc4]; exact decide_eq_false hk
    conv => whnf
    intro c5 hc5
    cases c5
    rotate_left
    · have hk7 : kind = 7 := by simpa using hc5
      conv => whnf
      refine ⟨[0, 1, 2, 3, 4, 5, 6, 7, 8], [], by kernel_rfl, by kernel_rfl, by kernel_rfl, ?_⟩
      conv => whnf
      intro c6 hc6
      conv => whnf
      refine ⟨?_, .refl _⟩
      exact way_in (xs := kids) (by simp [stepN, hk7, hp']) rfl (by omega) (by omega) (by rw [hc6]; rw [x3 rfl]; rfl)
    have hk7 : kind ≠ 7 := by simpa using hc5
    conv => whnf
    intro c5 hc5
    cases c5
    rotate_left
    · have hk9 : kind = 9 := by simpa using hc5
      conv => whnf
      refine ⟨[0, 1, 2, 3, 4, 5, 6, 7, 8], [], by kernel_rfl, by kernel_rfl, by kernel_rfl, ?_⟩
      conv => whnf
      intro c6 hc6
      conv => whnf
      refine ⟨?_, .refl _⟩
      exact way_in (xs := kids) (by simp [stepN, hk9, hp']) rfl (by omega) (by omega) (by rw [hc6]; rw [x3 rfl]; rfl)
    have hk9 : kind ≠ 9 := by simpa using hc5
    conv => whnf
    refine ⟨way_out (by simp [stepN, hk, hk7, hk9]), .refl _⟩
  · conv => whnf
    intro c hc
    cases c
    rotate_left
    · have hp : k < 0 := by simpa using hc
      conv => whnf
      refine ⟨way_out (by simp [stepN, hp]), .refl _⟩
    have hp : 0 ≤ k := by simpa using hc
    have hp' : ¬ k < 0 := by omega
    conv => whnf
    intro c1 hc1
    cases c1
    rotate_left
    · have hk : kind = 8 := by simpa using hc1
      conv => whnf
      refine ⟨by decide, ?_⟩
      conv => whnf
      intro c3 hc3
      cases c3
      · have hm : ¬ k % 2 = 0 := by rw [← odd hp]; simpa using hc3
        conv => whnf
        intro c4 hc4
        obtain rfl : c4 = true := by rw [hc4]; exact decide_eq_true hk
        conv => whnf
        refine ⟨[0, 1, 2, 3, 4, 5, 6, 7, 8, 9, 10], [], by kernel_rfl, by kernel_rfl, by kernel_rfl, ?_⟩
        conv => whnf
        refine ⟨by decide, ?_⟩
        rw [half hp h2]
        conv => whnf
        refine ⟨by decide, ?_⟩
        rw [half hp h2]
        conv => whnf
        intro c6 hc6
        conv => whnf
        refine ⟨?_, .refl _⟩
        exact way_in (xs := kids) (by simp [stepN, hk, hm, hp']) rfl (by omega) (by omega) (by rw [hc6]; rw [vs_len])
      · have hm : k % 2 = 0 := by rw [← odd hp]; simpa using hc3
        conv => whnf
        refine ⟨[0, 1, 2, 3, 4, 5, 6, 7, 8, 9, 10], [], by kernel_rfl, by kernel_rfl, by kernel_rfl, ?_⟩
        conv => whnf
        refine ⟨by decide, ?_⟩
        rw [half hp h2]
        conv => whnf
        refine ⟨by decide, ?_⟩
        rw [half hp h2]
        conv => whnf
        intro c6 hc6
        conv => whnf
        refine ⟨?_, .refl _⟩
        exact way_in (xs := keys) (by simp [stepN, hk, hm, hp']) rfl (by omega) (by omega) (by rw [hc6]; rw [vs_len])
    have hk : kind ≠ 8 := by simpa using hc1
    conv => whnf
    intro c4 hc4
    obtain rfl : c4 = false := by rw [hc4]; exact decide_eq_false hk
    conv => whnf
    intro c5 hc5
    cases c5
    rotate_left
    · have hk7 : kind = 7 := by simpa using hc5
      conv => whnf
      refine ⟨[0, 1, 2, 3, 4, 5, 6, 7, 8], [], by kernel_rfl, by kernel_rfl, by kernel_rfl, ?_⟩
      conv => whnf
      intro c6 hc6
      conv => whnf
      refine ⟨?_, .refl _⟩
      exact way_in (xs := kids) (by simp [stepN, hk7, hp']) rfl (by omega) (by omega) (by rw [hc6]; rw [vs_len])
    have hk7 : kind ≠ 7 := by simpa using hc5
    conv => whnf
    intro c5 hc5
    cases c5
    rotate_left
    · have hk9 : kind = 9 := by simpa using hc5
      conv => whnf
      refine ⟨[0, 1, 2, 3, 4, 5, 6, 7, 8], [], by kernel_rfl, by kernel_rfl, by kernel_rfl, ?_⟩
      conv => whnf
      intro c6 hc6
      conv => whnf
      refine ⟨?_, .refl _⟩
      exact way_in (xs := kids) (by simp [stepN, hk9, hp']) rfl (by omega) (by omega) (by rw [hc6]; rw [vs_len])
    have hk9 : kind ≠ 9 := by simpa using hc5
    conv => whnf
    refine ⟨way_out (by simp [stepN, hk, hk7, hk9]), .refl _⟩
end Go.Proofs.YtmkmakokgfigoaaDoor
namespace Go.Proofs.YtmkmakokgfigoaaDoor
open Go.Proofs.YtmkmakokgfigoaaDoor.VM
set_option maxRecDepth 100000
set_option linter.unusedVariables false
set_option maxHeartbeats 1000000

def pI (k : Int) : AV := .int .i64 k
def findN : Nd → List Int → Option Nd
  | x, [] => some x
  | x, k :: ps => (stepN x k).bind fun y => findN y ps
def PsOk (ps : List Int) : Prop := ∀ k ∈ ps, -2 ^ 63 ≤ k ∧ k < 2 ^ 63
theorem step_mem {x y : Nd} {k : Int} (h : stepN x k = some y) : y ∈ x.keys ∨ y ∈ x.kids := by
  obtain ⟨kind, n, neg, dg, ex, tx, fb, bs, fk, keys, fd, kids⟩ := x
  simp only [stepN] at h
  split at h
  · split at h
    · cases h
    · split at h
      · exact .inl (List.mem_of_getElem? h)
      · exact .inr (List.mem_of_getElem? h)
  · split at h
    · split at h
      · cases h
      · exact .inr (List.mem_of_getElem? h)
    · cases h
theorem step_ok {x y : Nd} {k : Int} (hx : x.Ok) (h : stepN x k = some y) : y.Ok := by
  have hm := step_mem h
  obtain ⟨kind, n, neg, dg, ex, tx, fb, bs, fk, keys, fd, kids⟩ := x
  obtain ⟨x1, x2, x3, x4, x5, x6, x7, x8⟩ := hx
  rcases hm with hm | hm
  · exact oks_iff.1 x7 _ hm
  · exact oks_iff.1 x8 _ hm
theorem step_cnt {x y : Nd} {k : Int} (h : stepN x k = some y) : cnt y < cnt x := by
  have hm := step_mem h
  obtain ⟨kind, n, neg, dg, ex, tx, fb, bs, fk, keys, fd, kids⟩ := x
  simp only [cnt]
  rcases hm with hm | hm
  · have := cnt_mem (xs := keys) hm; omega
  · have := cnt_mem (xs := kids) hm; omega
def findV : Option Nd → AV
  | some y => .tuple [.cptr y.cs 0, .int .i64 0]
  | none => .tuple [.nul, .int .i64 19]
theorem drop_cons {α : Type} {xs : List α} {i : Nat} (h : i < xs.length) : xs.drop i = xs[i] :: xs.drop (i + 1) := List.drop_eq_getElem_cons h

theorem t33 (x : Nd) (hx : x.Ok) (ps : List Int) (fp : Sl) (hf : fp = .nil → ps = []) (hp : PsOk ps) (hl : ps.length ≤ 2 ^ 62) (S : St) : CallQ Tryd.prog TC 33 [.cptr x.cs 0, slV fp (ps.map pI)] S fun r S1 => r = findV (findN x ps) ∧ S1 = S := by
  refine CallQ.of rfl (by kernel_rfl : Tryd.prog.funcs[33]? = some Tryd.f33) rfl (by decide) ?_
  rcases fp with _ | tp
  · obtain rfl := hf rfl
    conv => whnf
    refine CodeQ.loop (fun (i : Nat) => pat 27 [(0, .cptr x.cs 0), (11, .int .i64 0), (12, .int .i64 0)]) (fun m i S1 => S1 = S) ?_ 0 0 _ _ rfl ⟨rfl, rfl, rfl, trivial⟩
    rintro m i S1 d rfl
    conv => whnf
    intro c hc
    obtain rfl : c = false := by rw [hc]; rfl
    conv => whnf
    exact ⟨rfl, rfl⟩
  · conv => whnf
    refine CodeQ.loop (fun (q : Nat × Nd) => pat 27 [(0, .cptr q.2.cs 0), (10, .lst (ps.map pI) tp), (11, .int .i64 ps.length), (12, .int .i64 q.1)]) (fun m q S1 => S1 = S ∧ q.1 + m = ps.length ∧ findN x ps = findN q.2 (ps.drop q.1) ∧ q.2.Ok) ?_ ps.length (0, x) _ _ ⟨rfl, by simp, rfl, hx⟩ ⟨rfl, rfl, by simp, rfl, trivial⟩
    rintro m ⟨i, y⟩ S1 d ⟨rfl, hi, hfi, hy⟩
    dsimp only at *
    conv => whnf
    intro c hc
    cases c
    · have : ps.length ≤ i := by simpa using hc
      conv => whnf
      refine ⟨?_, rfl⟩
      rw [hfi, List.drop_eq_nil_iff.2 this]
      rfl
    · have hlt : i < ps.length := by simpa using hc
      have hk := hp ps[i] (List.getElem_mem hlt)
      have g1 : (ps.map pI)[i]? = some (.int .i64 ps[i]) := by simp [hlt, pI]
      conv => whnf
      refine ⟨by omega, _, g1, rfl, ?_⟩
      conv => whnf
      refine CallQ.mono (t44 y hy ps[i] hk.1 hk.2 S1) ?_
      rintro r S2 ⟨rfl, rfl⟩
      rw [drop_cons hlt] at hfi
      simp only [findN] at hfi
      have hso := @step_ok y
      cases hst : stepN y ps[i] with
      | none =>
        rw [hst] at hfi
        conv => whnf
        refine ⟨?_, rfl⟩
        rw [hfi]
        rfl
      | some z =>
        rw [hst] at hfi
        conv => whnf
        refine ⟨m - 1, (i + 1, z), by omega, ⟨rfl, by dsimp only; omega, hfi, hso hy hst⟩, ⟨rfl, rfl, rfl, ?_, trivial⟩⟩
        rw [wrap_i64 (by omega) (by omega)]; rfl
end Go.Proofs.YtmkmakokgfigoaaDoor
