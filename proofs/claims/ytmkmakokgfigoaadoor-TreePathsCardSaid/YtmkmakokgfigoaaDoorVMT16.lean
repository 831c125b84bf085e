import Derived.Test.YtmkmakokgfigoaaDoorVMT14
namespace Go.Proofs.YtmkmakokgfigoaaDoor
open Go.Proofs.YtmkmakokgfigoaaDoor.VM
set_option maxRecDepth 100000
set_option linter.unusedVariables false
set_option maxHeartbeats 1000000

def Nd.cs : Nd → List AV
  | .mk kind n neg dg ex tx fb bs fk keys fd kids => [.int .i64 kind, .int .u64 n, .bool neg, .str dg, .int .i64 ex, .str tx, slV fb (bs.map u8), slV fk (Nd.vs keys), slV fd (Nd.vs kids)]
def stepN : Nd → Int → Option Nd
  | .mk kind _ _ _ _ _ _ _ _ keys _ kids, k => if kind = 8 then (if k < 0 then none else if k % 2 = 0 then keys[(k / 2).toNat]? else kids[(k / 2).toNat]?)
    else if kind = 7 ∨ kind = 9 then (if k < 0 then none else kids[k.toNat]?) else none
def stepV : Option Nd → AV
  | some y => .tuple [.cptr y.cs 0, .bool true]
  | none => .tuple [.nul, .bool false]
theorem half {k : Int} (h : 0 ≤ k) (h2 : k < 2 ^ 63) : IntKind.i64.wrap (k.tdiv 2) = k / 2 := by
  rw [Int.tdiv_eq_ediv_of_nonneg h, wrap_i64 (by omega) (by omega)]
theorem odd {k : Int} (h : 0 ≤ k) : k.tmod 2 = k % 2 := Int.tmod_eq_emod_of_nonneg h

theorem t44 (x : Nd) (hx : x.Ok) (k : Int) (h1 : -2 ^ 63 ≤ k) (h2 : k < 2 ^ 63) (S : St) : CallQ Tryd.prog TC 44 [.cptr x.cs 0, .int .i64 k] S fun r S1 => r = stepV (stepN x k) ∧ S1 = S := by
  obtain ⟨kind, n, neg, dg, ex, tx, fb, bs, fk, keys, fd, kids⟩ := x
  obtain ⟨x1, x2, x3, x4, x5, x6, x7, x8⟩ := hx
  refine CallQ.of rfl (by kernel_rfl : Tryd.prog.funcs[44]? = some Tryd.f44) rfl (by decide) ?_
  rcases fk with _ | tk <;> rcases fd with _ | td
  · conv => whnf
    intro c hc
    cases c
    rotate_left
    · have hk : kind = 8 := by simpa using hc
      conv => whnf
      refine ⟨by decide, ?_⟩
      conv => whnf
      intro c3 hc3
      cases c3
      · conv => whnf
        intro c4 hc4
        cases c4
        · have hp : 0 ≤ k := by simpa using hc4
          have hm : ¬ k % 2 = 0 := by rw [← odd hp]; simpa using hc3
          conv => whnf
          refine ⟨by decide, ?_⟩
          rw [half hp h2]
          conv => whnf
          intro c5 hc5
          obtain rfl : c5 = false := by rw [hc5]; exact decide_eq_false (by omega)
          conv => whnf
          intro c6 hc6
          obtain rfl : c6 = true := by rw [hc6]; exact decide_eq_true (by show (0 : Int) ≤ _; omega)
          conv => whnf
          refine ⟨?_, rfl⟩
          rw [show stepN (.mk kind n neg dg ex tx fb bs _ keys _ kids) k = kids[(k / 2).toNat]? by simp [stepN, hk, hm, show ¬ k < 0 by omega], List.getElem?_eq_none (by rw [x3 rfl]; simp)]
          rfl
        · have hp : k < 0 := by simpa using hc4
          conv => whnf
          refine ⟨?_, rfl⟩
          rw [show stepN (.mk kind n neg dg ex tx fb bs _ keys _ kids) k = none by simp [stepN, hk, hp]]
          rfl
      · conv => whnf
        intro c4 hc4
        cases c4
        · have hp : 0 ≤ k := by simpa using hc4
          have hm : k % 2 = 0 := by rw [← odd hp]; simpa using hc3
          conv => whnf
          refine ⟨by decide, ?_⟩
          rw [half hp h2]
          conv => whnf
          intro c5 hc5
          obtain rfl : c5 = false := by rw [hc5]; exact decide_eq_false (by omega)
          conv => whnf
          intro c6 hc6
          obtain rfl : c6 = true := by rw [hc6]; exact decide_eq_true (by show (0 : Int) ≤ _; omega)
          conv => whnf
          refine ⟨?_, rfl⟩
          rw [show stepN (.mk kind n neg dg ex tx fb bs _ keys _ kids) k = keys[(k / 2).toNat]? by simp [stepN, hk, hm, show ¬ k < 0 by omega], List.getElem?_eq_none (by rw [x2 rfl]; simp)]
          rfl
        · have hp : k < 0 := by simpa using hc4
          conv => whnf
          refine ⟨?_, rfl⟩
          rw [show stepN (.mk kind n neg dg ex tx fb bs _ keys _ kids) k = none by simp [stepN, hk, hp]]
          rfl
    have hk : kind ≠ 8 := by simpa using hc
    conv => whnf
    intro c2 hc2
    have key : ∀ b : Bool, b = decide (kind = 7 ∨ kind = 9) → stepN (.mk kind n neg dg ex tx fb bs (.nil) keys (.nil) kids) k = if b = true then (if k < 0 then none else kids[k.toNat]?) else none := by
      intro b hb
      rw [hb]
      simp [stepN, hk]
    cases c2
    rotate_left
    · have hk7 : kind = 7 := by simpa using hc2
      conv => whnf
      intro c5 hc5
      cases c5
      rotate_left
      · have hp : k < 0 := by simpa using hc5
        conv => whnf
        refine ⟨?_, rfl⟩
        rw [show stepN (.mk kind n neg dg ex tx fb bs _ keys _ kids) k = none by rw [key true (by simp [hk7])]; simp [hp]]
        rfl
      have hp : 0 ≤ k := by simpa using hc5
      conv => whnf
      intro c6 hc6
      obtain rfl : c6 = true := by rw [hc6]; exact decide_eq_true (by show (0 : Int) ≤ _; omega)
      conv => whnf
      refine ⟨?_, rfl⟩
      rw [show stepN (.mk kind n neg dg ex tx fb bs _ keys _ kids) k = kids[(k).toNat]? by rw [key true (by simp [hk7])]; simp [show ¬ k < 0 by omega], List.getElem?_eq_none (by rw [x3 rfl]; simp)]
      rfl
    have hk7 : kind ≠ 7 := by simpa using hc2
    conv => whnf
    intro c2 hc2
    cases c2
    rotate_left
    · have hk9 : kind = 9 := by simpa using hc2
      conv => whnf
      intro c5 hc5
      cases c5
      rotate_left
      · have hp : k < 0 := by simpa using hc5
        conv => whnf
        refine ⟨?_, rfl⟩
        rw [show stepN (.mk kind n neg dg ex tx fb bs _ keys _ kids) k = none by rw [key true (by simp [hk9])]; simp [hp]]
        rfl
      have hp : 0 ≤ k := by simpa using hc5
      conv => whnf
      intro c6 hc6
      obtain rfl : c6 = true := by rw [hc6]; exact decide_eq_true (by show (0 : Int) ≤ _; omega)
      conv => whnf
      refine ⟨?_, rfl⟩
      rw [show stepN (.mk kind n neg dg ex tx fb bs _ keys _ kids) k = kids[(k).toNat]? by rw [key true (by simp [hk9])]; simp [show ¬ k < 0 by omega], List.getElem?_eq_none (by rw [x3 rfl]; simp)]
      rfl
    have hk9 : kind ≠ 9 := by simpa using hc2
    conv => whnf
    refine ⟨?_, rfl⟩
    rw [show stepN (.mk kind n neg dg ex tx fb bs _ keys _ kids) k = none by rw [key false (by simp [hk7, hk9])]; simp]
    rfl
  · conv => whnf
    intro c hc
    cases c
    rotate_left
    · have hk : kind = 8 := by simpa using hc
      conv => whnf
      refine ⟨by decide, ?_⟩
      conv => whnf
      intro c3 hc3
      cases c3
      · conv => whnf
        intro c4 hc4
        cases c4
        · have hp : 0 ≤ k := by simpa using hc4
          have hm : ¬ k % 2 = 0 := by rw [← odd hp]; simpa using hc3
          conv => whnf
          refine ⟨by decide, ?_⟩
          rw [half hp h2]
          conv => whnf
          intro c5 hc5
          obtain rfl : c5 = false := by rw [hc5]; exact decide_eq_false (by omega)
          conv => whnf
          intro c6 hc6
          cases c6
          · have hlt : (k / 2).toNat < kids.length := by
              have : ¬ (((k / 2) : Int) ≥ ((Nd.vs kids).length : Nat)) := by simpa using hc6
              rw [vs_len] at this; omega
            conv => whnf
            have g1 := vs_at hlt
            have g0 : kids[(k / 2).toNat]? = some kids[(k / 2).toNat] := List.getElem?_eq_getElem hlt
            generalize kids[(k / 2).toNat] = y at *
            obtain ⟨kind', n', neg', dg', ex', tx', fb', bs', fk', keys', fd', kids'⟩ := y
            refine ⟨by omega, _, g1, rfl, ?_⟩
            conv => whnf
            refine ⟨?_, rfl⟩
            rw [show stepN (.mk kind n neg dg ex tx fb bs _ keys _ kids) k = kids[(k / 2).toNat]? by simp [stepN, hk, hm, show ¬ k < 0 by omega], g0]
            rfl
          · have hge : kids.length ≤ (k / 2).toNat := by
              have : (((k / 2) : Int) ≥ ((Nd.vs kids).length : Nat)) := by simpa using hc6
              rw [vs_len] at this; omega
            conv => whnf
            refine ⟨?_, rfl⟩
            rw [show stepN (.mk kind n neg dg ex tx fb bs _ keys _ kids) k = kids[(k / 2).toNat]? by simp [stepN, hk, hm, show ¬ k < 0 by omega], List.getElem?_eq_none (by exact hge)]
            rfl
        · have hp : k < 0 := by simpa using hc4
          conv => whnf
          refine ⟨?_, rfl⟩
          rw [show stepN (.mk kind n neg dg ex tx fb bs _ keys _ kids) k = none by simp [stepN, hk, hp]]
          rfl
      · conv => whnf
        intro c4 hc4
        cases c4
        · have hp : 0 ≤ k := by simpa using hc4
          have hm : k % 2 = 0 := by rw [← odd hp]; simpa using hc3
          conv => whnf
          refine ⟨by decide, ?_⟩
          rw [half hp h2]
          conv => whnf
          intro c5 hc5
          obtain rfl : c5 = false := by rw [hc5]; exact decide_eq_false (by omega)
          conv => whnf
          intro c6 hc6
          obtain rfl : c6 = true := by rw [hc6]; exact decide_eq_true (by show (0 : Int) ≤ _; omega)
          conv => whnf
          refine ⟨?_, rfl⟩
          rw [show stepN (.mk kind n neg dg ex tx fb bs _ keys _ kids) k = keys[(k / 2).toNat]? by simp [stepN, hk, hm, show ¬ k < 0 by omega], List.getElem?_eq_none (by rw [x2 rfl]; simp)]
          rfl
        · have hp : k < 0 := by simpa using hc4
          conv => whnf
          refine ⟨?_, rfl⟩
          rw [show stepN (.mk kind n neg dg ex tx fb bs _ keys _ kids) k = none by simp [stepN, hk, hp]]
          rfl
    have hk : kind ≠ 8 := by simpa using hc
    conv => whnf
    intro c2 hc2
    have key : ∀ b : Bool, b = decide (kind = 7 ∨ kind = 9) → stepN (.mk kind n neg dg ex tx fb bs (.nil) keys (.lst td) kids) k = if b = true then (if k < 0 then none else kids[k.toNat]?) else none := by
      intro b hb
      rw [hb]
      simp [stepN, hk]
    cases c2
    rotate_left
    · have hk7 : kind = 7 := by simpa using hc2
      conv => whnf
      intro c5 hc5
      cases c5
      rotate_left
      · have hp : k < 0 := by simpa using hc5
        conv => whnf
        refine ⟨?_, rfl⟩
        rw [show stepN (.mk kind n neg dg ex tx fb bs _ keys _ kids) k = none by rw [key true (by simp [hk7])]; simp [hp]]
        rfl
      have hp : 0 ≤ k := by simpa using hc5
      conv => whnf
      intro c6 hc6
      cases c6
      · have hlt : (k).toNat < kids.length := by
          have : ¬ (((k) : Int) ≥ ((Nd.vs kids).length : Nat)) := by simpa using hc6
          rw [vs_len] at this; omega
        conv => whnf
        have g1 := vs_at hlt
        have g0 : kids[(k).toNat]? = some kids[(k).toNat] := List.getElem?_eq_getElem hlt
        generalize kids[(k).toNat] = y at *
        obtain ⟨kind', n', neg', dg', ex', tx', fb', bs', fk', keys', fd', kids'⟩ := y
        refine ⟨by omega, _, g1, rfl, ?_⟩
        conv => whnf
        refine ⟨?_, rfl⟩
        rw [show stepN (.mk kind n neg dg ex tx fb bs _ keys _ kids) k = kids[(k).toNat]? by rw [key true (by simp [hk7])]; simp [show ¬ k < 0 by omega], g0]
        rfl
      · have hge : kids.length ≤ (k).toNat := by
          have : (((k) : Int) ≥ ((Nd.vs kids).length : Nat)) := by simpa using hc6
          rw [vs_len] at this; omega
        conv => whnf
        refine ⟨?_, rfl⟩
        rw [show stepN (.mk kind n neg dg ex tx fb bs _ keys _ kids) k = kids[(k).toNat]? by rw [key true (by simp [hk7])]; simp [show ¬ k < 0 by omega], List.getElem?_eq_none (by exact hge)]
        rfl
    have hk7 : kind ≠ 7 := by simpa using hc2
    conv => whnf
    intro c2 hc2
    cases c2
    rotate_left
    · have hk9 : kind = 9 := by simpa using hc2
      conv => whnf
      intro c5 hc5
      cases c5
      rotate_left
      · have hp : k < 0 := by simpa using hc5
        conv => whnf
        refine ⟨?_, rfl⟩
        rw [show stepN (.mk kind n neg dg ex tx fb bs _ keys _ kids) k = none by rw [key true (by simp [hk9])]; simp [hp]]
        rfl
      have hp : 0 ≤ k := by simpa using hc5
      conv => whnf
      intro c6 hc6
      cases c6
      · have hlt : (k).toNat < kids.length := by
          have : ¬ (((k) : Int) ≥ ((Nd.vs kids).length : Nat)) := by simpa using hc6
          rw [vs_len] at this; omega
        conv => whnf
        have g1 := vs_at hlt
        have g0 : kids[(k).toNat]? = some kids[(k).toNat] := List.getElem?_eq_getElem hlt
        generalize kids[(k).toNat] = y at *
        obtain ⟨kind', n', neg', dg', ex', tx', fb', bs', fk', keys', fd', kids'⟩ := y
        refine ⟨by omega, _, g1, rfl, ?_⟩
        conv => whnf
        refine ⟨?_, rfl⟩
        rw [show stepN (.mk kind n neg dg ex tx fb bs _ keys _ kids) k = kids[(k).toNat]? by rw [key true (by simp [hk9])]; simp [show ¬ k < 0 by omega], g0]
        rfl
      · have hge : kids.length ≤ (k).toNat := by
          have : (((k) : Int) ≥ ((Nd.vs kids).length : Nat)) := by simpa using hc6
          rw [vs_len] at this; omega
        conv => whnf
        refine ⟨?_, rfl⟩
        rw [show stepN (.mk kind n neg dg ex tx fb bs _ keys _ kids) k = kids[(k).toNat]? by rw [key true (by simp [hk9])]; simp [show ¬ k < 0 by omega], List.getElem?_eq_none (by exact hge)]
        rfl
    have hk9 : kind ≠ 9 := by simpa using hc2
    conv => whnf
    refine ⟨?_, rfl⟩
    rw [show stepN (.mk kind n neg dg ex tx fb bs _ keys _ kids) k = none by rw [key false (by simp [hk7, hk9])]; simp]
    rfl
  · conv => whnf
    intro c hc
    cases c
    rotate_left
    · have hk : kind = 8 := by simpa using hc
      conv => whnf
      refine ⟨by decide, ?_⟩
      conv => whnf
      intro c3 hc3
      cases c3
      · conv => whnf
        intro c4 hc4
        cases c4
        · have hp : 0 ≤ k := by simpa using hc4
          have hm : ¬ k % 2 = 0 := by rw [← odd hp]; simpa using hc3
          conv => whnf
          refine ⟨by decide, ?_⟩
          rw [half hp h2]
          conv => whnf
          intro c5 hc5
          obtain rfl : c5 = false := by rw [hc5]; exact decide_eq_false (by omega)
          conv => whnf
          intro c6 hc6
          obtain rfl : c6 = true := by rw [hc6]; exact decide_eq_true (by show (0 : Int) ≤ _; omega)
          conv => whnf
          refine ⟨?_, rfl⟩
          rw [show stepN (.mk kind n neg dg ex tx fb bs _ keys _ kids) k = kids[(k / 2).toNat]? by simp [stepN, hk, hm, show ¬ k < 0 by omega], List.getElem?_eq_none (by rw [x3 rfl]; simp)]
          rfl
        · have hp : k < 0 := by simpa using hc4
          conv => whnf
          refine ⟨?_, rfl⟩
          rw [show stepN (.mk kind n neg dg ex tx fb bs _ keys _ kids) k = none by simp [stepN, hk, hp]]
          rfl
      · conv => whnf
        intro c4 hc4
        cases c4
        · have hp : 0 ≤ k := by simpa using hc4
          have hm : k % 2 = 0 := by rw [← odd hp]; simpa using hc3
          conv => whnf
          refine ⟨by decide, ?_⟩
          rw [half hp h2]
          conv => whnf
          intro c5 hc5
          obtain rfl : c5 = false := by rw [hc5]; exact decide_eq_false (by omega)
          conv => whnf
          intro c6 hc6
          cases c6
          · have hlt : (k / 2).toNat < keys.length := by
              have : ¬ (((k / 2) : Int) ≥ ((Nd.vs keys).length : Nat)) := by simpa using hc6
              rw [vs_len] at this; omega
            conv => whnf
            have g1 := vs_at hlt
            have g0 : keys[(k / 2).toNat]? = some keys[(k / 2).toNat] := List.getElem?_eq_getElem hlt
            generalize keys[(k / 2).toNat] = y at *
            obtain ⟨kind', n', neg', dg', ex', tx', fb', bs', fk', keys', fd', kids'⟩ := y
            refine ⟨by omega, _, g1, rfl, ?_⟩
            conv => whnf
            refine ⟨?_, rfl⟩
            rw [show stepN (.mk kind n neg dg ex tx fb bs _ keys _ kids) k = keys[(k / 2).toNat]? by simp [stepN, hk, hm, show ¬ k < 0 by omega], g0]
            rfl
          · have hge : keys.length ≤ (k / 2).toNat := by
              have : (((k / 2) : Int) ≥ ((Nd.vs keys).length : Nat)) := by simpa using hc6
              rw [vs_len] at this; omega
            conv => whnf
            refine ⟨?_, rfl⟩
            rw [show stepN (.mk kind n neg dg ex tx fb bs _ keys _ kids) k = keys[(k / 2).toNat]? by simp [stepN, hk, hm, show ¬ k < 0 by omega], List.getElem?_eq_none (by exact hge)]
            rfl
        · have hp : k < 0 := by simpa using hc4
          conv => whnf
          refine ⟨?_, rfl⟩
          rw [show stepN (.mk kind n neg dg ex tx fb bs _ keys _ kids) k = none by simp [stepN, hk, hp]]
          rfl
    have hk : kind ≠ 8 := by simpa using hc
    conv => whnf
    intro c2 hc2
    have key : ∀ b : Bool, b = decide (kind = 7 ∨ kind = 9) → stepN (.mk kind n neg dg ex tx fb bs (.lst tk) keys (.nil) kids) k = if b = true then (if k < 0 then none else kids[k.toNat]?) else none := by
      intro b hb
      rw [hb]
      simp [stepN, hk]
    cases c2
    rotate_left
    · have hk7 : kind = 7 := by simpa using hc2
      conv => whnf
      intro c5 hc5
      cases c5
      rotate_left
      · have hp : k < 0 := by simpa using hc5
        conv => whnf
        refine ⟨?_, rfl⟩
        rw [show stepN (.mk kind n neg dg ex tx fb bs _ keys _ kids) k = none by rw [key true (by simp [hk7])]; simp [hp]]
        rfl
      have hp : 0 ≤ k := by simpa using hc5
      conv => whnf
      intro c6 hc6
      obtain rfl : c6 = true := by rw [hc6]; exact decide_eq_true (by show (0 : Int) ≤ _; omega)
      conv => whnf
      refine ⟨?_, rfl⟩
      rw [show stepN (.mk kind n neg dg ex tx fb bs _ keys _ kids) k = kids[(k).toNat]? by rw [key true (by simp [hk7])]; simp [show ¬ k < 0 by omega], List.getElem?_eq_none (by rw [x3 rfl]; simp)]
      rfl
    have hk7 : kind ≠ 7 := by simpa using hc2
    conv => whnf
    intro c2 hc2
    cases c2
    rotate_left
    · have hk9 : kind = 9 := by simpa using hc2
      conv => whnf
      intro c5 hc5
      cases c5
      rotate_left
      · have hp : k < 0 := by simpa using hc5
        conv => whnf
        refine ⟨?_, rfl⟩
        rw [show stepN (.mk kind n neg dg ex tx fb bs _ keys _ kids) k = none by rw [key true (by simp [hk9])]; simp [hp]]
        rfl
      have hp : 0 ≤ k := by simpa using hc5
      conv => whnf
      intro c6 hc6
      obtain rfl : c6 = true := by rw [hc6]; exact decide_eq_true (by show (0 : Int) ≤ _; omega)
      conv => whnf
      refine ⟨?_, rfl⟩
      rw [show stepN (.mk kind n neg dg ex tx fb bs _ keys _ kids) k = kids[(k).toNat]? by rw [key true (by simp [hk9])]; simp [show ¬ k < 0 by omega], List.getElem?_eq_none (by rw [x3 rfl]; simp)]
      rfl
    have hk9 : kind ≠ 9 := by simpa using hc2
    conv => whnf
    refine ⟨?_, rfl⟩
    rw [show stepN (.mk kind n neg dg ex tx fb bs _ keys _ kids) k = none by rw [key false (by simp [hk7, hk9])]; simp]
    rfl
  · conv => whnf
    intro c hc
    cases c
    rotate_left
    · have hk : kind = 8 := by simpa using hc
      conv => whnf
      refine ⟨by decide, ?_⟩
      conv => whnf
      intro c3 hc3
      cases c3
      · conv => whnf
        intro c4 hc4
        cases c4
        · have hp : 0 ≤ k := by simpa using hc4
          have hm : ¬ k % 2 = 0 := by rw [← odd hp]; simpa using hc3
          conv => whnf
          refine ⟨by decide, ?_⟩
          rw [half hp h2]
          conv => whnf
          intro c5 hc5
          obtain rfl : c5 = false := by rw [hc5]; exact decide_eq_false (by omega)
          conv => whnf
          intro c6 hc6
          cases c6
          · have hlt : (k / 2).toNat < kids.length := by
              have : ¬ (((k / 2) : Int) ≥ ((Nd.vs kids).length : Nat)) := by simpa using hc6
              rw [vs_len] at this; omega
            conv => whnf
            have g1 := vs_at hlt
            have g0 : kids[(k / 2).toNat]? = some kids[(k / 2).toNat] := List.getElem?_eq_getElem hlt
            generalize kids[(k / 2).toNat] = y at *
            obtain ⟨kind', n', neg', dg', ex', tx', fb', bs', fk', keys', fd', kids'⟩ := y
            refine ⟨by omega, _, g1, rfl, ?_⟩
            conv => whnf
            refine ⟨?_, rfl⟩
            rw [show stepN (.mk kind n neg dg ex tx fb bs _ keys _ kids) k = kids[(k / 2).toNat]? by simp [stepN, hk, hm, show ¬ k < 0 by omega], g0]
            rfl
          · have hge : kids.length ≤ (k / 2).toNat := by
              have : (((k / 2) : Int) ≥ ((Nd.vs kids).length : Nat)) := by simpa using hc6
              rw [vs_len] at this; omega
            conv => whnf
            refine ⟨?_, rfl⟩
            rw [show stepN (.mk kind n neg dg ex tx fb bs _ keys _ kids) k = kids[(k / 2).toNat]? by simp [stepN, hk, hm, show ¬ k < 0 by omega], List.getElem?_eq_none (by exact hge)]
            rfl
        · have hp : k < 0 := by simpa using hc4
          conv => whnf
          refine ⟨?_, rfl⟩
          rw [show stepN (.mk kind n neg dg ex tx fb bs _ keys _ kids) k = none by simp [stepN, hk, hp]]
          rfl
      · conv => whnf
        intro c4 hc4
        cases c4
        · have hp : 0 ≤ k := by simpa using hc4
          have hm : k % 2 = 0 := by rw [← odd hp]; simpa using hc3
          conv => whnf
          refine ⟨by decide, ?_⟩
          rw [half hp h2]
          conv => whnf
          intro c5 hc5
          obtain rfl : c5 = false := by rw [hc5]; exact decide_eq_false (by omega)
          conv => whnf
          intro c6 hc6
          cases c6
          · have hlt : (k / 2).toNat < keys.length := by
              have : ¬ (((k / 2) : Int) ≥ ((Nd.vs keys).length : Nat)) := by simpa using hc6
              rw [vs_len] at this; omega
            conv => whnf
            have g1 := vs_at hlt
            have g0 : keys[(k / 2).toNat]? = some keys[(k / 2).toNat] := List.getElem?_eq_getElem hlt
            generalize keys[(k / 2).toNat] = y at *
            obtain ⟨kind', n', neg', dg', ex', tx', fb', bs', fk', keys', fd', kids'⟩ := y
            refine ⟨by omega, _, g1, rfl, ?_⟩
            conv => whnf
            refine ⟨?_, rfl⟩
            rw [show stepN (.mk kind n neg dg ex tx fb bs _ keys _ kids) k = keys[(k / 2).toNat]? by simp [stepN, hk, hm, show ¬ k < 0 by omega], g0]
            rfl
          · have hge : keys.length ≤ (k / 2).toNat := by
              have : (((k / 2) : Int) ≥ ((Nd.vs keys).length : Nat)) := by simpa using hc6
              rw [vs_len] at this; omega
            conv => whnf
            refine ⟨?_, rfl⟩
            rw [show stepN (.mk kind n neg dg ex tx fb bs _ keys _ kids) k = keys[(k / 2).toNat]? by simp [stepN, hk, hm, show ¬ k < 0 by omega], List.getElem?_eq_none (by exact hge)]
            rfl
        · have hp : k < 0 := by simpa using hc4
          conv => whnf
          refine ⟨?_, rfl⟩
          rw [show stepN (.mk kind n neg dg ex tx fb bs _ keys _ kids) k = none by simp [stepN, hk, hp]]
          rfl
    have hk : kind ≠ 8 := by simpa using hc
    conv => whnf
    intro c2 hc2
    have key : ∀ b : Bool, b = decide (kind = 7 ∨ kind = 9) → stepN (.mk kind n neg dg ex tx fb bs (.lst tk) keys (.lst td) kids) k = if b = true then (if k < 0 then none else kids[k.toNat]?) else none := by
      intro b hb
      rw [hb]
      simp [stepN, hk]
    cases c2
    rotate_left
    · have hk7 : kind = 7 := by simpa using hc2
      conv => whnf
      intro c5 hc5
      cases c5
      rotate_left
      · have hp : k < 0 := by simpa using hc5
        conv => whnf
        refine ⟨?_, rfl⟩
        rw [show stepN (.mk kind n neg dg ex tx fb bs _ keys _ kids) k = none by rw [key true (by simp [hk7])]; simp [hp]]
        rfl
      have hp : 0 ≤ k := by simpa using hc5
      conv => whnf
      intro c6 hc6
      cases c6
      · have hlt : (k).toNat < kids.length := by
          have : ¬ (((k) : Int) ≥ ((Nd.vs kids).length : Nat)) := by simpa using hc6
          rw [vs_len] at this; omega
        conv => whnf
        have g1 := vs_at hlt
        have g0 : kids[(k).toNat]? = some kids[(k).toNat] := List.getElem?_eq_getElem hlt
        generalize kids[(k).toNat] = y at *
        obtain ⟨kind', n', neg', dg', ex', tx', fb', bs', fk', keys', fd', kids'⟩ := y
        refine ⟨by omega, _, g1, rfl, ?_⟩
        conv => whnf
        refine ⟨?_, rfl⟩
        rw [show stepN (.mk kind n neg dg ex tx fb bs _ keys _ kids) k = kids[(k).toNat]? by rw [key true (by simp [hk7])]; simp [show ¬ k < 0 by omega], g0]
        rfl
      · have hge : kids.length ≤ (k).toNat := by
          have : (((k) : Int) ≥ ((Nd.vs kids).length : Nat)) := by simpa using hc6
          rw [vs_len] at this; omega
        conv => whnf
        refine ⟨?_, rfl⟩
        rw [show stepN (.mk kind n neg dg ex tx fb bs _ keys _ kids) k = kids[(k).toNat]? by rw [key true (by simp [hk7])]; simp [show ¬ k < 0 by omega], List.getElem?_eq_none (by exact hge)]
        rfl
    have hk7 : kind ≠ 7 := by simpa using hc2
    conv => whnf
    intro c2 hc2
    cases c2
    rotate_left
    · have hk9 : kind = 9 := by simpa using hc2
      conv => whnf
      intro c5 hc5
      cases c5
      rotate_left
      · have hp : k < 0 := by simpa using hc5
        conv => whnf
        refine ⟨?_, rfl⟩
        rw [show stepN (.mk kind n neg dg ex tx fb bs _ keys _ kids) k = none by rw [key true (by simp [hk9])]; simp [hp]]
        rfl
      have hp : 0 ≤ k := by simpa using hc5
      conv => whnf
      intro c6 hc6
      cases c6
      · have hlt : (k).toNat < kids.length := by
          have : ¬ (((k) : Int) ≥ ((Nd.vs kids).length : Nat)) := by simpa using hc6
          rw [vs_len] at this; omega
        conv => whnf
        have g1 := vs_at hlt
        have g0 : kids[(k).toNat]? = some kids[(k).toNat] := List.getElem?_eq_getElem hlt
        generalize kids[(k).toNat] = y at *
        obtain ⟨kind', n', neg', dg', ex', tx', fb', bs', fk', keys', fd', kids'⟩ := y
        refine ⟨by omega, _, g1, rfl, ?_⟩
        conv => whnf
        refine ⟨?_, rfl⟩
        rw [show stepN (.mk kind n neg dg ex tx fb bs _ keys _ kids) k = kids[(k).toNat]? by rw [key true (by simp [hk9])]; simp [show ¬ k < 0 by omega], g0]
        rfl
      · have hge : kids.length ≤ (k).toNat := by
          have : (((k) : Int) ≥ ((Nd.vs kids).length : Nat)) := by simpa using hc6
          rw [vs_len] at this; omega
        conv => whnf
        refine ⟨?_, rfl⟩
        rw [show stepN (.mk kind n neg dg ex tx fb bs _ keys _ kids) k = kids[(k).toNat]? by rw [key true (by simp [hk9])]; simp [show ¬ k < 0 by omega], List.getElem?_eq_none (by exact hge)]
        rfl
    have hk9 : kind ≠ 9 := by simpa using hc2
    conv => whnf
    refine ⟨?_, rfl⟩
    rw [show stepN (.mk kind n neg dg ex tx fb bs _ keys _ kids) k = none by rw [key false (by simp [hk7, hk9])]; simp]
    rfl
end Go.Proofs.YtmkmakokgfigoaaDoor
