import Derived.Test.YtnbjhgaaollhcaaDoorVMReg1
/-! Regions that draw their order: what was run in one order, and what is fixed of the order. -/
namespace Go.Proofs.YtnbjhgaaollhcaaDoor.VM
set_option linter.unusedSimpArgs false
set_option linter.unusedVariables false
set_option linter.unusedSectionVars false
open Go.RowKit
variable [Glob]

mutual
theorem AV.eqb_eq : ∀ (a b : AV), AV.eqb a b = true → a = b
  | .undef, b, h => by cases b <;> simp_all [AV.eqb]
  | .bool x, b, h => by cases b <;> simp_all [AV.eqb]
  | .int k n, b, h => by cases b <;> simp_all [AV.eqb]
  | .str s, b, h => by cases b <;> simp_all [AV.eqb]
  | .nul, b, h => by cases b <;> simp_all [AV.eqb]
  | .ptr n o, b, h => by cases b <;> simp_all [AV.eqb]
  | .cptr cs o, b, h => by
    cases b <;> simp [AV.eqb] at h
    rw [AV.eqbL_eq _ _ h.1, h.2]
  | .nils, b, h => by cases b <;> simp_all [AV.eqb]
  | .lst xs t, b, h => by
    cases b <;> simp [AV.eqb] at h
    rw [AV.eqbL_eq _ _ h.1, h.2]
  | .hnd a1 a2 a3 a4, b, h => by cases b <;> simp_all [AV.eqb]
  | .func fn xs ys, b, h => by
    cases b <;> simp [AV.eqb] at h
    rw [AV.eqbL_eq _ _ h.1.2, AV.eqbL_eq _ _ h.2, h.1.1]
  | .nilFunc, b, h => by cases b <;> simp_all [AV.eqb]
  | .iface t v, b, h => by
    cases b <;> simp [AV.eqb] at h
    rw [AV.eqb_eq _ _ h.2, h.1]
  | .nilIface, b, h => by cases b <;> simp_all [AV.eqb]
  | .agg xs, b, h => by
    cases b <;> simp [AV.eqb] at h
    rw [AV.eqbL_eq _ _ h]
  | .tuple xs, b, h => by
    cases b <;> simp [AV.eqb] at h
    rw [AV.eqbL_eq _ _ h]
  | .iter n, b, h => by cases b <;> simp_all [AV.eqb]
theorem AV.eqbL_eq : ∀ (a b : List AV), AV.eqbL a b = true → a = b
  | [], [], _ => rfl
  | [], _ :: _, h => by simp [AV.eqbL] at h
  | _ :: _, [], h => by simp [AV.eqbL] at h
  | a :: l, b :: m, h => by
    simp [AV.eqbL] at h
    rw [AV.eqb_eq _ _ h.1, AV.eqbL_eq _ _ h.2]
end

section
variable {P : Program} {C : Cfg} {cf : CF} {f : FuncId}

def StabOk (P : Program) (C : Cfg) (cf : CF) (f : FuncId) (ops : Array Oper) (env : List AV) (S' : St) (r : Nat) : Prop :=
  ∃ q, ops[r]? = some q ∧ (wantedA ops env q = some false ∨ ∃ d u S2, wantedA ops env q = some true ∧ q.dst = some d ∧ env[d]? = some u ∧ opA P C cf f env S' q = some (.ret u, S2))

structure Hist (P : Program) (C : Cfg) (cf : CF) (f : FuncId) (ops : Array Oper) (stab : Nat → List Nat) (n : Nat) (l : Nat → Nat) (o : Nat → Oper) (e : Nat → List AV) (s : Nat → St) (v : Nat → AV) (wn : Nat → Bool) : Prop where
  op : ∀ p, p < n → ops[l p]? = some (o p)
  want : ∀ p, p < n → wantedA ops (e p) (o p) = some (wn p)
  run : ∀ p, p < n → wn p = true → opA P C cf f (e p) (s p) (o p) = some (.ret (v p), s (p + 1))
  skip : ∀ p, p < n → wn p = false → v p = .tuple [] ∧ s (p + 1) = s p
  env : ∀ p, p < n → e (p + 1) = putA (e p) (o p).dst (v p)
  stab : ∀ p, p < n → wn p = true → ∀ r ∈ stab (l p), StabOk P C cf f ops (e p) (s (p + 1)) r

theorem stab_of {ops : Array Oper} {env : List AV} {S' : St} {rs : List Nat} (h : rs.all (fun j => match ops[j]? with
                  | some q => (match wantedA ops env q, q.dst with
                    | some false, _ => true
                    | some true, some d => (match opA P C cf f env S' q, env[d]? with
                      | some (.ret u, _), some u' => AV.eqb u u'
                      | _, _ => false)
                    | _, _ => false)
                  | none => false) = true) : ∀ r ∈ rs, StabOk P C cf f ops env S' r := by
  intro r hr
  have h1 := List.all_eq_true.1 h r hr
  split at h1
  · rename_i q hq
    refine ⟨q, hq, ?_⟩
    split at h1
    · rename_i hw; exact .inl hw
    · rename_i d hw hd
      split at h1
      · rename_i u S2 u' ho hu
        rw [← AV.eqb_eq _ _ h1] at hu
        exact .inr ⟨d, u, S2, hw, hd, hu, ho⟩
      · cases h1
    · cases h1
  · cases h1

def cons0 {α : Type} (x : α) (g : Nat → α) : Nat → α
  | 0 => x
  | p + 1 => g p

theorem Hist.cons {ops : Array Oper} {stab : Nat → List Nat} {n : Nat} {i : Nat} {L : List Nat} {o : Nat → Oper} {e : Nat → List AV} {s : Nat → St} {v : Nat → AV} {wn : Nat → Bool} (h : Hist P C cf f ops stab n (fun p => L.getD p 0) o e s v wn)
    {o0 : Oper} {e0 : List AV} {s0 : St} {v0 : AV} {w0 : Bool} (h1 : ops[i]? = some o0) (h2 : wantedA ops e0 o0 = some w0) (h3 : w0 = true → opA P C cf f e0 s0 o0 = some (.ret v0, s 0)) (h4 : w0 = false → v0 = .tuple [] ∧ s 0 = s0)
    (h5 : e 0 = putA e0 o0.dst v0) (h6 : w0 = true → ∀ r ∈ stab i, StabOk P C cf f ops e0 (s 0) r) :
    Hist P C cf f ops stab (n + 1) (fun p => (i :: L).getD p 0) (cons0 o0 o) (cons0 e0 e) (cons0 s0 s) (cons0 v0 v) (cons0 w0 wn) := by
  refine ⟨fun p hp => ?_, fun p hp => ?_, fun p hp => ?_, fun p hp => ?_, fun p hp => ?_, fun p hp => ?_⟩ <;> cases p with
  | zero => first | exact h1 | exact h2 | exact h3 | exact h4 | exact h5 | exact h6
  | succ p => first | exact h.op p (by omega) | exact h.want p (by omega) | exact h.run p (by omega) | exact h.skip p (by omega) | exact h.env p (by omega) | exact h.stab p (by omega)

theorem hist_of {ops : Array Oper} {stab : Nat → List Nat} {pan : Nat → Nat → Bool} : ∀ (L : List Nat) {env : List AV} {S : St} {out : Out} {env' : List AV} {S' : St}, opsA P C cf f ops stab pan L env S = some (out, env', S') →
    (out = .normal ∧ ∃ o e s v wn, Hist P C cf f ops stab L.length (fun p => L.getD p 0) o e s v wn ∧ e 0 = env ∧ s 0 = S ∧ e L.length = env' ∧ s L.length = S') ∨
    (∃ pv n o e s v wn, out = .panic pv ∧ n < L.length ∧ Hist P C cf f ops stab n (fun p => L.getD p 0) o e s v wn ∧ e 0 = env ∧ s 0 = S ∧ e n = env' ∧ ops[L.getD n 0]? = some (o n) ∧ wantedA ops (e n) (o n) = some true ∧
      opA P C cf f (e n) (s n) (o n) = some (.panic pv, S') ∧ ∀ p, n < p → p < L.length → pan (L.getD n 0) (L.getD p 0) = true)
  | [], env, S, out, env', S', h => by
    cases h
    exact .inl ⟨rfl, fun _ => default, fun _ => env, fun _ => S, fun _ => .undef, fun _ => true, ⟨fun p hp => by simp at hp, fun p hp => by simp at hp, fun p hp => by simp at hp, fun p hp => by simp at hp, fun p hp => by simp at hp, fun p hp => by simp at hp⟩, rfl, rfl, rfl, rfl⟩
  | i :: rest, env, S, out, env', S', h => by
    unfold opsA at h
    split at h
    · cases h
    · rename_i o0 ho
      obtain ⟨b, hb, h⟩ := Option.bind_eq_some_iff.1 h
      -- what follows, with this operation ahead
      have go : ∀ (v0 : AV) (S1 : St), opsA P C cf f ops stab pan rest (putA env o0.dst v0) S1 = some (out, env', S') → (b = true → opA P C cf f env S o0 = some (.ret v0, S1)) → (b = false → v0 = .tuple [] ∧ S1 = S) → (b = true → ∀ r ∈ stab i, StabOk P C cf f ops env S1 r) →
          (out = .normal ∧ ∃ o e s v wn, Hist P C cf f ops stab (i :: rest).length (fun p => (i :: rest).getD p 0) o e s v wn ∧ e 0 = env ∧ s 0 = S ∧ e (i :: rest).length = env' ∧ s (i :: rest).length = S') ∨
          (∃ pv n o e s v wn, out = .panic pv ∧ n < (i :: rest).length ∧ Hist P C cf f ops stab n (fun p => (i :: rest).getD p 0) o e s v wn ∧ e 0 = env ∧ s 0 = S ∧ e n = env' ∧ ops[(i :: rest).getD n 0]? = some (o n) ∧ wantedA ops (e n) (o n) = some true ∧
            opA P C cf f (e n) (s n) (o n) = some (.panic pv, S') ∧ ∀ p, n < p → p < (i :: rest).length → pan ((i :: rest).getD n 0) ((i :: rest).getD p 0) = true) := by
        intro v0 S1 h1 h3 h4 h6
        rcases hist_of rest h1 with ⟨e1, o, e, s, v, wn, hh, q1, q2, q3, q4⟩ | ⟨pv, n, o, e, s, v, wn, e1, hn, hh, q1, q2, q3, q4, q5, q6, q7⟩
        · exact .inl ⟨e1, _, _, _, _, _, hh.cons ho hb (by rw [q2]; exact h3) (by rw [q2]; exact h4) q1 (by rw [q2]; exact h6), rfl, rfl, q3, q4⟩
        · exact .inr ⟨pv, n + 1, _, _, _, _, _, e1, by simp; omega, hh.cons ho hb (by rw [q2]; exact h3) (by rw [q2]; exact h4) q1 (by rw [q2]; exact h6), rfl, rfl, q3, q4, q5, q6, fun p h1 h2 => by
            cases p with
            | zero => omega
            | succ p => exact q7 p (by omega) (by simp at h2; omega)⟩
      split at h
      · rename_i hbt
        subst hbt
        replace h := Option.bind_eq_some_iff.1 h; obtain ⟨⟨res, S1⟩, hq, h⟩ := h
        simp only at h
        split at h
        · rename_i v0
          split at h
          · rename_i hst
            exact go v0 S1 h (fun _ => hq) (fun h => by cases h) (fun _ => stab_of hst)
          · cases h
        · rename_i pv
          split at h
          · rename_i hpan
            cases h
            refine .inr ⟨pv, 0, fun _ => o0, fun _ => env, fun _ => S, fun _ => .undef, fun _ => true, rfl, by simp, ⟨fun p hp => by omega, fun p hp => by omega, fun p hp => by omega, fun p hp => by omega, fun p hp => by omega, fun p hp => by omega⟩, rfl, rfl, rfl, ho, hb, hq, fun p h1 h2 => ?_⟩
            cases p with
            | zero => omega
            | succ p =>
              have h3 : p < rest.length := by simp at h2; omega
              have := List.all_eq_true.1 hpan rest[p] (List.getElem_mem h3)
              simpa [List.getD, h3] using this
          · cases h
      · rename_i hbt
        have hbf : b = false := by cases b <;> simp_all
        exact go (.tuple []) S h (fun h => by simp_all) (fun _ => ⟨rfl, rfl⟩) (fun h => by simp_all)
end

/-! ### the edges -/
def befStep (acc : Array Nat) (o : Oper) : Array Nat := acc.push (o.after.foldl (fun s e => if Region.binds .any e then s ||| 2 ^ e.on ||| acc.getD e.on 0 else s) 0)
theorem before_list (ops : Array Oper) : Region.before ops = ops.toList.foldl befStep #[] := by
  unfold Region.before
  rw [← Array.foldl_toList]
  rfl
theorem bef_size : ∀ (l : List Oper) (acc : Array Nat), (l.foldl befStep acc).size = acc.size + l.length
  | [], acc => by simp
  | o :: l, acc => by rw [List.foldl_cons, bef_size l]; simp [befStep]; omega
theorem bef_keep : ∀ (l : List Oper) (acc : Array Nat) (k : Nat), k < acc.size → (l.foldl befStep acc).getD k 0 = acc.getD k 0
  | [], acc, k, _ => rfl
  | o :: l, acc, k, h => by
    rw [List.foldl_cons, bef_keep l _ k (by simp [befStep]; omega)]
    have h2 : k < acc.size + 1 := by omega
    simp [befStep, Array.getD, h, h2, Array.getElem_push]
theorem edge_fold (acc : Array Nat) (i : Nat) : ∀ (es : List Edge) (s : Nat), (es.foldl (fun s e => if Region.binds .any e then s ||| 2 ^ e.on ||| acc.getD e.on 0 else s) s).testBit i = true ↔
    s.testBit i = true ∨ ∃ e ∈ es, Region.binds .any e = true ∧ (e.on = i ∨ (acc.getD e.on 0).testBit i = true)
  | [], s => by simp
  | e :: es, s => by
    rw [List.foldl_cons, edge_fold acc i es]
    by_cases hb : Region.binds .any e = true
    · simp only [hb, if_true, Nat.testBit_or, Bool.or_eq_true, Nat.testBit_two_pow, decide_eq_true_eq, List.mem_cons, exists_eq_or_imp, true_and]
      constructor
      · rintro (((h | h) | h) | h)
        · exact .inl h
        · exact .inr (.inl (.inl h))
        · exact .inr (.inl (.inr h))
        · exact .inr (.inr h)
      · rintro (h | (h | h) | h)
        · exact .inl (.inl (.inl h))
        · exact .inl (.inl (.inr h))
        · exact .inl (.inr h)
        · exact .inr h
    · have hb' : Region.binds .any e = false := by simpa using hb
      simp [hb']

theorem anc_spec {ops : Array Oper} {j : Nat} {o : Oper} (hj : ops[j]? = some o) (i : Nat) : anc ops i j = true ↔ ∃ e ∈ o.after.toList, Region.binds .any e = true ∧ (e.on = i ∨ (e.on < j ∧ anc ops i e.on = true)) := by
  have hlt : j < ops.toList.length := by have := (Array.getElem?_eq_some_iff.1 hj).1; simpa using this
  have hlt' : j < ops.size := (Array.getElem?_eq_some_iff.1 hj).1
  have hsplit : ops.toList = ops.toList.take j ++ o :: ops.toList.drop (j + 1) := by
    rw [← List.take_append_drop j ops.toList]
    congr 1
    · simp
    · rw [List.take_append_drop, List.drop_eq_getElem_cons hlt]
      congr 1
      have := Array.getElem?_toList (xs := ops) (i := j)
      rw [hj, List.getElem?_eq_getElem hlt] at this
      exact Option.some.inj this
  have hB : ∀ k, k < j → (Region.before ops).getD k 0 = ((ops.toList.take j).foldl befStep #[]).getD k 0 := by
    intro k hk
    rw [before_list]
    conv => lhs; rw [hsplit]
    rw [List.foldl_append, bef_keep _ _ k (by rw [bef_size]; simp; omega)]
  have hsz : ((ops.toList.take j).foldl befStep #[]).size = j := by rw [bef_size]; simp; omega
  have hJ : (Region.before ops).getD j 0 = o.after.foldl (fun s e => if Region.binds .any e then s ||| 2 ^ e.on ||| ((ops.toList.take j).foldl befStep #[]).getD e.on 0 else s) 0 := by
    rw [before_list]
    conv => lhs; rw [hsplit]
    rw [List.foldl_append, List.foldl_cons, bef_keep _ _ j (by simp [befStep, hsz])]
    simp [befStep, Array.getD, hsz, Array.getElem_push]
  unfold anc
  rw [hJ, ← Array.foldl_toList, edge_fold]
  simp only [Nat.zero_testBit, Bool.false_eq_true, false_or]
  constructor
  · rintro ⟨e, he, hb, h⟩
    refine ⟨e, he, hb, ?_⟩
    rcases h with h | h
    · exact .inl h
    · by_cases hk : e.on < j
      · exact .inr ⟨hk, by rw [hB _ hk]; exact h⟩
      · exfalso
        have : ((ops.toList.take j).foldl befStep #[]).getD e.on 0 = 0 := by simp [Array.getD, hsz, hk]
        rw [this] at h; simp at h
  · rintro ⟨e, he, hb, h⟩
    refine ⟨e, he, hb, ?_⟩
    rcases h with h | ⟨hk, h⟩
    · exact .inl h
    · exact .inr (by rw [← hB _ hk]; exact h)
end Go.Proofs.YtnbjhgaaollhcaaDoor.VM
