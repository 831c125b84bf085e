import Derived.Test.YtfphpjinimfhfaaVMJ15
namespace Go.Proofs.Ytfphpjinimfhfaa
open Go.Proofs.Ytfphpjinimfhfaa.VM Go.RowKit
set_option maxRecDepth 100000
set_option linter.unusedVariables false
set_option maxHeartbeats 4000000
def escF : List UInt8 := [34, 92, 47, 98, 102, 110, 114, 116]
def escT : List UInt8 := [34, 92, 47, 8, 12, 10, 13, 9]
def escFu : List UInt8 := [34, 92, 47, 98, 102, 110, 114, 116, 117]
theorem unit_le (bs : List UInt8) (low : Bool) : ∀ (k i n : Nat) (x : Lx), x.at_ ≤ bs.length → (unitS bs low k i n x).2.at_ ≤ bs.length
  | 0, i, n, x, h => h
  | k + 1, i, n, x, h => by
    unfold unitS
    split
    · exact unit_le bs low k _ _ _ (must_le h)
    · exact must_le h
theorem unit_lt (bs : List UInt8) (low : Bool) : ∀ (k i n : Nat) (x : Lx), n < 16 ^ i → (unitS bs low k i n x).1 < 16 ^ (i + k)
  | 0, i, n, x, h => h
  | k + 1, i, n, x, h => by
    unfold unitS
    split
    · rename_i hm
      have hlt := may_lt hm
      have hh : hasB (setOf low i n) (bs.getD x.at_ 0) = true := by
        unfold mayB at hm
        rw [getd hlt] at hm
        simpa using (Bool.and_eq_true _ _ ▸ hm).2
      have := hex_in low i n _ hh
      have h2 := unit_lt bs low k (i + 1) (n * 16 + hexv (bs.getD x.at_ 0)) (mustS bs (setOf low i n) x) (by rw [Nat.pow_succ]; omega)
      rwa [show i + 1 + k = i + (k + 1) by omega] at h2
    · exact Nat.pow_pos (by decide)
/-- Behind a backslash. -/
def escS (bs : List UInt8) (x : Lx) : Int × Lx :=
  if mayB bs escFu x = true then
    if 0 ≤ Lib.indexByte escF (bs.getD x.at_ 0) then (((escT.getD (Lib.indexByte escF (bs.getD x.at_ 0)).toNat 0).toNat : Nat), x.up)
    else
      let u := unitS bs false 4 0 0 x.up
      if u.1 / 1024 = 54 then
        if mayB bs [92] u.2 = true then
          if mayB bs [117] u.2.up = true then
            let v := unitS bs true 4 0 0 u.2.up.up
            (65536 + ((u.1 : Int) - 55296) * 1024 + v.1 - 56320, v.2)
          else ((u.1 : Nat), mustS bs [117] u.2.up)
        else ((u.1 : Nat), mustS bs [92] u.2)
      else ((u.1 : Nat), u.2)
  else (0, mustS bs escFu x)
theorem idx_escF (c : UInt8) : Lib.indexByte escF c < 8 := all_u8' (p := fun c => Lib.indexByte escF c < 8) (by decide +kernel) c
theorem t46 (h : Bool) (p : Nat) (x : Lx) (bs : List UInt8) (t : Tip) (hl : bs.length ≤ 2 ^ 47) (hat : x.at_ ≤ bs.length) (S : St) (hp : p < S.next) (hc : S.cells p = some (x.cs (.lst (bs.map u8) t))) :
    CallQ Try.prog (JC h) 46 [.ptr p 0] S fun r S1 => r = .int .i32 (escS bs x).1 ∧ S1.cells p = some ((escS bs x).2.cs (.lst (bs.map u8) t)) ∧ B1 p S S1 := by
  have must := fun set x S hp hat hc => t37 h set p x bs t hl hat S hp hc
  have unit := fun low x S hp hat hc => t57 h low p x bs t hl hat S hp hc
  refine CallQ.of rfl (by kernel_rfl : Try.prog.funcs[46]? = some Try.f46) rfl (by decide) ?_
  conv => whnf
  refine CallQ.mono (must escFu x S hp hat hc) ?_
  rintro r S1 ⟨rfl, c1, b1⟩
  have n1 := b1.next
  unfold escS
  cases hm : mayB bs escFu x
  · rw [if_neg (by simp)]
    conv => whnf
    exact ⟨rfl, c1, b1⟩
  rw [if_pos rfl]
  rw [must_up hm] at c1
  have hlt := may_lt hm
  have hg := getd hlt
  have hix := idx_escF (bs.getD x.at_ 0)
  have hlt2 : x.up.at_ ≤ bs.length := hlt
  generalize bs.getD x.at_ 0 = c at *
  conv => whnf
  refine ⟨[0, 1, 2, 3, 4, 5, 6, 7, 8, 9, 10, 11, 12], [], by kernel_rfl, by kernel_rfl, by kernel_rfl, ?_⟩
  conv => whnf
  refine ⟨_, c1, ?_⟩
  conv => whnf
  refine ⟨_, c1, ?_⟩
  conv => whnf
  have e1 : IntKind.i64.wrap (((x.at_ + 1 : Nat) : Int) - 1) = (x.at_ : Int) := by rw [wrap_i64 (by omega) (by omega)]; omega
  refine ⟨by show 0 ≤ IntKind.i64.wrap (((x.at_ + 1 : Nat) : Int) - 1); rw [e1]; omega, u8 c, (by show (bs.map u8)[(IntKind.i64.wrap (((x.at_ + 1 : Nat) : Int) - 1)).toNat]? = _; rw [e1, Int.toNat_natCast, List.getElem?_map, hg]; rfl), rfl, ?_⟩
  conv => whnf
  refine CallQ.intr (g := idxByteG) rfl rfl ?_
  rw [toU8]
  have hF : Lib.indexByte [34, 92, 47, 98, 102, 110, 114, 116] c = Lib.indexByte escF c := rfl
  rw [hF]
  clear hF
  generalize Lib.indexByte escF c = ix at *
  conv => whnf
  refine br (fun h1 => ?_) (fun h1 => ?_)
  · rw [if_pos h1]
    conv => whnf
    have hge : escT[ix.toNat]? = some (escT.getD ix.toNat 0) := getd (l := escT) (by show _ < 8; omega)
    refine ⟨h1, _, hge, ?_⟩
    have hcl := (escT.getD ix.toNat 0).toNat_lt
    conv => whnf
    refine ⟨?_, c1, b1⟩
    show AV.int .i32 (IntKind.i32.wrap _) = _
    rw [wrap_i32 (by omega) (by omega)]
  rw [if_neg h1]
  conv => whnf
  refine CallQ.mono (unit false x.up S1 (by omega) hlt2 c1) ?_
  rintro r S2 ⟨rfl, c2, b2⟩
  have n2 := b2.next
  have ule := unit_le bs false 4 0 0 x.up hlt2
  have ult := unit_lt bs false 4 0 0 x.up (by decide)
  generalize unitS bs false 4 0 0 x.up = u at *
  obtain ⟨n, y⟩ := u
  dsimp only at *
  have hn : n < 65536 := ult
  conv => whnf
  refine ⟨by decide, ?_⟩
  rw [shr32 n 10 10 rfl (by omega)]
  conv => whnf
  refine brNe (fun h2 => ?_) (fun h2 => ?_)
  · rw [if_neg (by omega)]
    conv => whnf
    exact ⟨rfl, c2, b1.trans b2⟩
  rw [if_pos (by omega)]
  conv => whnf
  refine CallQ.mono (must [92] y S2 (by omega) ule c2) ?_
  rintro r S3 ⟨rfl, c3, b3⟩
  have n3 := b3.next
  cases hm3 : mayB bs [92] y
  · rw [if_neg (by simp)]
    conv => whnf
    exact ⟨rfl, c3, (b1.trans b2).trans b3⟩
  rw [if_pos rfl]
  rw [must_up hm3] at c3
  have hlt3 := may_lt hm3
  conv => whnf
  refine CallQ.mono (must [117] y.up S3 (by omega) hlt3 c3) ?_
  rintro r S4 ⟨rfl, c4, b4⟩
  have n4 := b4.next
  cases hm4 : mayB bs [117] y.up
  · rw [if_neg (by simp)]
    conv => whnf
    exact ⟨rfl, c4, ((b1.trans b2).trans b3).trans b4⟩
  rw [if_pos rfl]
  rw [must_up hm4] at c4
  have hlt4 := may_lt hm4
  conv => whnf
  refine ⟨by decide, ?_⟩
  conv => whnf
  refine CallQ.mono (unit true y.up.up S4 (by omega) hlt4 c4) ?_
  rintro r S5 ⟨rfl, c5, b5⟩
  have ult5 := unit_lt bs true 4 0 0 y.up.up (by decide)
  generalize unitS bs true 4 0 0 y.up.up = v at *
  obtain ⟨m, z⟩ := v
  dsimp only at *
  have hm5 : m < 65536 := ult5
  conv => whnf
  refine ⟨?_, c5, (((b1.trans b2).trans b3).trans b4).trans b5⟩
  show AV.int .i32 (IntKind.i32.wrap (IntKind.i32.wrap (IntKind.i32.wrap (65536 + IntKind.i32.wrap (IntKind.i32.wrap ((n : Int) - 55296) * 2 ^ min (10 : Int).toNat IntKind.i32.bits)) + (m : Int)) - 56320)) = _
  have e0 : min (10 : Int).toNat IntKind.i32.bits = 10 := rfl
  have h54 : n / 1024 = 54 := by omega
  rw [e0, wrap_i32 (x := (n : Int) - 55296) (by omega) (by omega), wrap_i32 (x := ((n : Int) - 55296) * 2 ^ 10) (by omega) (by omega), wrap_i32 (x := 65536 + ((n : Int) - 55296) * 2 ^ 10) (by omega) (by omega), wrap_i32 (x := 65536 + ((n : Int) - 55296) * 2 ^ 10 + (m : Int)) (by omega) (by omega), wrap_i32 (by omega) (by omega)]
  rfl
end Go.Proofs.Ytfphpjinimfhfaa
