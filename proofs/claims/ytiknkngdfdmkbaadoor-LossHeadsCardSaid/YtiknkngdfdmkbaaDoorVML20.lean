import Derived.Test.YtiknkngdfdmkbaaDoorVML19
/-! The plain law of losses: lists of them. -/
namespace Go.Proofs.YtiknkngdfdmkbaaDoor
open Go.Proofs.YtiknkngdfdmkbaaDoor.VM
set_option linter.unusedVariables false
set_option maxRecDepth 100000

def lossR (x : Raw) : List UInt8 := curShort x.kind ++ curShort x.n ++ curShort x.ps.length ++ x.ps.flatMap fun p => curShort p.toNat
structure Raw.Ok (x : Raw) : Prop where
  k1 : 1 ≤ x.kind
  k2 : x.kind ≤ 6
  n : x.n < 2 ^ 64
  len : x.ps.length ≤ 64
  ps : ∀ p ∈ x.ps, 0 ≤ p ∧ p ≤ 4095
def buildR (xs : List Raw) : List UInt8 := curShort xs.length ++ xs.flatMap lossR

theorem within_ok {lo hi e n : Nat} {r : List UInt8} (h1 : lo ≤ n) (h2 : n ≤ hi) (h3 : n < 2 ^ 64) : within lo hi e (.ok (curShort n ++ r)) = (n, .ok r) := by
  simp only [within, rd_cur h3]
  rw [if_neg (by omega)]
theorem rdN_ok {n : Nat} {r : List UInt8} (h3 : n < 2 ^ 64) : rdN (.ok (curShort n ++ r)) = (n, .ok r) := by simp only [rdN, rd_cur h3]
theorem rdPath_ok : ∀ (ps : List Int) (r : List UInt8), (∀ p ∈ ps, 0 ≤ p ∧ p ≤ 4095) → rdPath ps.length (.ok ((ps.flatMap fun p => curShort p.toNat) ++ r)) = (ps, .ok r)
  | [], r, h => rfl
  | p :: ps, r, h => by
    obtain ⟨h1, h2⟩ := h p (by simp)
    have e : within 0 4095 5 (.ok (curShort p.toNat ++ ((ps.flatMap fun p => curShort p.toNat) ++ r))) = (p.toNat, .ok ((ps.flatMap fun p => curShort p.toNat) ++ r)) := within_ok (by omega) (by omega) (by omega)
    have ih := rdPath_ok ps r fun q hq => h q (by simp [hq])
    rw [List.flatMap_cons, List.append_assoc, List.length_cons, rdPath, e]
    simp only [ih]
    congr 2
    omega
theorem rdLoss_ok {x : Raw} (hx : x.Ok) (r : List UInt8) : rdLoss (.ok (lossR x ++ r)) = (x, .ok r) := by
  have e : lossR x ++ r = curShort x.kind ++ (curShort x.n ++ (curShort x.ps.length ++ ((x.ps.flatMap fun p => curShort p.toNat) ++ r))) := by simp [lossR]
  have h1 := hx.k1
  have h2 := hx.k2
  have h3 := hx.len
  rw [e]
  unfold rdLoss
  rw [within_ok hx.k1 hx.k2 (by omega)]
  simp only
  rw [rdN_ok hx.n]
  simp only
  rw [within_ok (Nat.zero_le _) hx.len (by omega)]
  simp only
  rw [rdPath_ok _ _ hx.ps]
theorem rdAll_ok : ∀ (xs : List Raw) (r : List UInt8) (acc : List Raw), (∀ x ∈ xs, x.Ok) → rdAll xs.length (.ok (xs.flatMap lossR ++ r)) acc = .ok (acc ++ xs, r)
  | [], r, acc, h => by simp [rdAll]
  | x :: xs, r, acc, h => by
    have e := rdLoss_ok (h x (by simp)) (xs.flatMap lossR ++ r)
    rw [List.flatMap_cons, List.append_assoc, List.length_cons, rdAll, e]
    simp only
    rw [rdAll_ok xs r _ fun y hy => h y (by simp [hy])]
    simp
/-- What is built is read. -/
theorem parse_build (xs : List Raw) (h : ∀ x ∈ xs, x.Ok) (hl : xs.length ≤ 2048) : parse (buildR xs) = .ok xs := by
  unfold parse buildR
  rw [within_ok (Nat.zero_le _) hl (by omega)]
  have := rdAll_ok xs [] [] h
  rw [List.append_nil] at this
  simp only [this, List.nil_append]

/-! ### back -/
theorem within_inv {lo hi e n : Nat} {st : PSt} {r : List UInt8} (h : within lo hi e st = (n, .ok r)) : st = .ok (curShort n ++ r) ∧ lo ≤ n ∧ n ≤ hi ∧ n < 2 ^ 64 := by
  unfold within at h
  split at h
  · cases h
  · split at h
    · cases h
    · rename_i m r' hr
      split at h
      · cases h
      · cases h
        obtain ⟨h1, h2⟩ := rd_back hr
        exact ⟨by rw [h1], by omega, by omega, h2⟩
theorem rdN_inv {n : Nat} {st : PSt} {r : List UInt8} (h : rdN st = (n, .ok r)) : st = .ok (curShort n ++ r) ∧ n < 2 ^ 64 := by
  unfold rdN at h
  split at h
  · cases h
  · split at h
    · cases h
    · rename_i m r' hr
      cases h
      obtain ⟨h1, h2⟩ := rd_back hr
      exact ⟨by rw [h1], h2⟩
theorem rdPath_inv : ∀ (k : Nat) (st : PSt) (ps : List Int) (r : List UInt8), rdPath k st = (ps, .ok r) → st = .ok ((ps.flatMap fun p => curShort p.toNat) ++ r) ∧ ps.length = k ∧ ∀ p ∈ ps, 0 ≤ p ∧ p ≤ 4095
  | 0, st, ps, r, h => by cases h; exact ⟨rfl, rfl, fun _ h => (List.not_mem_nil h).elim⟩
  | k + 1, st, ps, r, h => by
    rw [rdPath] at h
    obtain ⟨h1, h2⟩ := Prod.mk.inj h
    obtain ⟨i1, i2, i3⟩ := rdPath_inv k (within 0 4095 5 st).2 _ r (Prod.ext rfl h2)
    obtain ⟨w1, _, w2, _⟩ := within_inv (lo := 0) (hi := 4095) (e := 5) (st := st) (n := (within 0 4095 5 st).1) (Prod.ext rfl i1)
    subst h1
    refine ⟨?_, by simp [i2], fun p hp => ?_⟩
    · refine w1.trans ?_
      simp
    · rcases List.mem_cons.1 hp with rfl | hp
      · exact ⟨by omega, by omega⟩
      · exact i3 p hp
theorem rdLoss_inv {st : PSt} {x : Raw} {r : List UInt8} (h : rdLoss st = (x, .ok r)) : st = .ok (lossR x ++ r) ∧ x.Ok := by
  unfold rdLoss at h
  obtain ⟨h1, h2⟩ := Prod.mk.inj h
  obtain ⟨i1, i2, i3⟩ := rdPath_inv _ _ _ r (Prod.ext rfl h2)
  obtain ⟨w1, _, w2, _⟩ := within_inv (Prod.ext rfl i1)
  obtain ⟨n1, n2⟩ := rdN_inv (Prod.ext rfl w1)
  obtain ⟨v1, v2, v3, v4⟩ := within_inv (Prod.ext rfl n1)
  subst h1
  refine ⟨?_, ⟨v2, v3, n2, ?_, i3⟩⟩
  · refine v1.trans ?_
    simp only [lossR, i2, List.append_assoc]
  · simp only [i2]; exact w2
theorem rdAll_inv : ∀ (n : Nat) (st : PSt) (acc xs : List Raw) (r : List UInt8), rdAll n st acc = .ok (xs, r) → ∃ ys, xs = acc ++ ys ∧ ys.length = n ∧ st = .ok (ys.flatMap lossR ++ r) ∧ ∀ y ∈ ys, y.Ok
  | 0, .error f, acc, xs, r, h => by simp [rdAll] at h
  | 0, .ok q, acc, xs, r, h => by
    simp only [rdAll, Except.ok.injEq, Prod.mk.injEq] at h
    exact ⟨[], by simp [h.1], rfl, by simp [h.2], fun _ h => (List.not_mem_nil h).elim⟩
  | n + 1, st, acc, xs, r, h => by
    rw [rdAll] at h
    split at h
    · cases h
    · rename_i r' hr
      obtain ⟨ys, h1, h2, h3, h4⟩ := rdAll_inv n _ _ xs r h
      obtain ⟨i1, i2⟩ := rdLoss_inv (st := st) (Prod.ext rfl hr)
      have h3' : r' = ys.flatMap lossR ++ r := by cases h3; rfl
      refine ⟨(rdLoss st).1 :: ys, by rw [h1]; simp, by simp [h2], ?_, fun y hy => ?_⟩
      · conv => lhs; rw [i1]
        rw [h3']; simp
      · rcases List.mem_cons.1 hy with rfl | hy
        · exact i2
        · exact h4 y hy
/-- What is read is what is built. -/
theorem parse_inv {bs : List UInt8} {xs : List Raw} (h : parse bs = .ok xs) : bs = buildR xs ∧ xs.length ≤ 2048 ∧ ∀ x ∈ xs, x.Ok := by
  unfold parse at h
  split at h
  · cases h
  · rename_i ys hr
    cases h
    obtain ⟨zs, h1, h2, h3, h4⟩ := rdAll_inv _ _ _ _ _ hr
    rw [List.nil_append] at h1
    subst h1
    obtain ⟨w1, _, w2, _⟩ := within_inv (Prod.ext rfl h3)
    have w1 := Except.ok.inj w1
    refine ⟨?_, by rw [h2]; exact w2, h4⟩
    rw [buildR, h2]
    rw [List.append_nil] at w1
    exact w1
  · cases h

/-! ### beginnings -/
theorem within_pre {lo hi e n : Nat} {p rest : List UInt8} (h1 : lo ≤ n) (h2 : n ≤ hi) (h3 : n < 2 ^ 64) (h : Pre p (curShort n ++ rest)) : within lo hi e (.ok p) = (0, .error (3, 0)) ∨ ∃ p', within lo hi e (.ok p) = (n, .ok p') ∧ Pre p' rest := by
  rcases h.split with h | ⟨p', rfl, hp2⟩
  · exact .inl (by simp only [within, rd_pre h3 h])
  · exact .inr ⟨p', within_ok h1 h2 h3, hp2⟩
theorem rdN_pre {n : Nat} {p rest : List UInt8} (h3 : n < 2 ^ 64) (h : Pre p (curShort n ++ rest)) : rdN (.ok p) = (0, .error (3, 0)) ∨ ∃ p', rdN (.ok p) = (n, .ok p') ∧ Pre p' rest := by
  rcases h.split with h | ⟨p', rfl, hp2⟩
  · exact .inl (by simp only [rdN, rd_pre h3 h])
  · exact .inr ⟨p', rdN_ok h3, hp2⟩
theorem rdPath_err : ∀ (k : Nat) (f : Flt), (rdPath k (.error f)).2 = .error f
  | 0, f => rfl
  | k + 1, f => by rw [rdPath]; exact rdPath_err k f
theorem rdPath_pre : ∀ (ps : List Int) (p rest : List UInt8), (∀ p ∈ ps, 0 ≤ p ∧ p ≤ 4095) → Pre p ((ps.flatMap fun p => curShort p.toNat) ++ rest) → (rdPath ps.length (.ok p)).2 = .error (3, 0) ∨ ∃ p', rdPath ps.length (.ok p) = (ps, .ok p') ∧ Pre p' rest
  | [], p, rest, h, hp => .inr ⟨p, rfl, by simpa using hp⟩
  | q :: ps, p, rest, h, hp => by
    obtain ⟨h1, h2⟩ := h q (by simp)
    rw [List.flatMap_cons, List.append_assoc] at hp
    rcases within_pre (lo := 0) (hi := 4095) (e := 5) (Nat.zero_le _) (by omega) (by omega) hp with e | ⟨p', e, hp'⟩
    · left
      rw [List.length_cons, rdPath, e]
      exact rdPath_err _ _
    · rcases rdPath_pre ps p' rest (fun x hx => h x (by simp [hx])) hp' with e2 | ⟨p2, e2, hp2⟩
      · left
        rw [List.length_cons, rdPath, e]
        exact e2
      · right
        refine ⟨p2, ?_, hp2⟩
        rw [List.length_cons, rdPath, e]
        simp only [e2]
        congr 2
        omega
theorem rdLoss_pre {x : Raw} (hx : x.Ok) {p rest : List UInt8} (h : Pre p (lossR x ++ rest)) : (rdLoss (.ok p)).2 = .error (3, 0) ∨ ∃ p', rdLoss (.ok p) = (x, .ok p') ∧ Pre p' rest := by
  have e : lossR x ++ rest = curShort x.kind ++ (curShort x.n ++ (curShort x.ps.length ++ ((x.ps.flatMap fun p => curShort p.toNat) ++ rest))) := by simp [lossR]
  have h1 := hx.k1
  have h2 := hx.k2
  have h3 := hx.len
  rw [e] at h
  unfold rdLoss
  have errN : ∀ f, rdN (.error f) = (0, .error f) := fun f => rfl
  have errW : ∀ lo hi e f, within lo hi e (.error f) = (0, .error f) := fun _ _ _ f => rfl
  rcases within_pre (lo := 1) (hi := 6) (e := 5) h1 h2 (by omega) h with e1 | ⟨p1, e1, hp1⟩
  · left; rw [e1]; simp only [errN, errW]; exact rdPath_err _ _
  rcases rdN_pre hx.n hp1 with e2 | ⟨p2, e2, hp2⟩
  · left; rw [e1]; simp only [e2, errW]; exact rdPath_err _ _
  rcases within_pre (lo := 0) (hi := 64) (e := 8) (Nat.zero_le _) h3 (by omega) hp2 with e3 | ⟨p3, e3, hp3⟩
  · left; rw [e1]; simp only [e2, e3]; exact rdPath_err _ _
  rcases rdPath_pre x.ps p3 rest hx.ps hp3 with e4 | ⟨p4, e4, hp4⟩
  · left; rw [e1]; simp only [e2, e3]; exact e4
  · right; rw [e1]; simp only [e2, e3, e4]; exact ⟨p4, rfl, hp4⟩
theorem rdAll_pre : ∀ (xs : List Raw) (p : List UInt8) (acc : List Raw), (∀ x ∈ xs, x.Ok) → Pre p (xs.flatMap lossR) → rdAll xs.length (.ok p) acc = .error (3, 0)
  | [], p, acc, h, ⟨q, hq, e⟩ => absurd (List.append_eq_nil_iff.1 e).2 hq
  | x :: xs, p, acc, h, hp => by
    rw [List.flatMap_cons] at hp
    rw [List.length_cons, rdAll]
    rcases rdLoss_pre (h x (by simp)) hp with e | ⟨p', e, hp'⟩
    · simp only [e]
    · simp only [e]
      exact rdAll_pre xs p' _ (fun y hy => h y (by simp [hy])) hp'
/-- No beginning of what is built is read. -/
theorem parse_pre {xs : List Raw} (h : ∀ x ∈ xs, x.Ok) (hl : xs.length ≤ 2048) {p : List UInt8} (hp : Pre p (buildR xs)) : parse p = .error (3, 0) := by
  unfold parse
  rcases within_pre (lo := 0) (hi := 2048) (e := 8) (Nat.zero_le _) hl (by omega) hp with e | ⟨p', e, hp'⟩
  · rw [e]; rfl
  · rw [e]
    simp only [rdAll_pre xs p' [] h hp']
end Go.Proofs.YtiknkngdfdmkbaaDoor
