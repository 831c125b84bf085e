import Derived.Test.YtfphpjinimfhfaaVMJ45
import Derived.Test.YtfphpjinimfhfaaVMJ26
namespace Go.Proofs.Ytfphpjinimfhfaa
open Go.Proofs.Ytfphpjinimfhfaa.VM Go.RowKit
set_option maxRecDepth 100000
set_option linter.unusedVariables false
set_option linter.unusedSimpArgs false
set_option maxHeartbeats 4000000
/-! The document's lexer, walked: Same. -/
theorem eqTok (a b c d e f : Int) (s u : List UInt8) : eqF Try.prog 33 (.agg [.int .i64 a, .int .i64 b, .int .i64 c, .str s]) (.agg [.int .i64 d, .int .i64 e, .int .i64 f, .str u]) = some (a == d && (b == e && (c == f && (s == u && true)))) := by kernel_rfl
theorem t14 (args : List AV) (l : List Tk) (hl : l.length ≤ 2 ^ 47) (va vb : AV) (ha : Elems va (l.map Tk.v)) (hb : Elems vb (l.map Tk.v)) (S S0 : St) (hm : mapS (frzA (S.next + 4)) args S = some ([va, vb], S0)) :
    CallQ Try.prog (JC true) 14 args S fun r S1 => r = .bool true ∧ S1 = S0 := by
  refine CallQ.ofZ rfl rfl rfl hm (by kernel_rfl : Try.prog.funcs[14]? = some Try.f14) rfl (by decide) ?_
  by_cases h0 : l = []
  · subst h0
    have e0 : ∀ v : AV, Elems v (([] : List Tk).map Tk.v) → v = .nils ∨ ∃ t, v = .lst [] t := by
      rintro v (⟨rfl, _⟩ | ⟨t, rfl⟩)
      · exact .inl rfl
      · exact .inr ⟨t, rfl⟩
    rcases e0 _ ha with rfl | ⟨ta, rfl⟩ <;> rcases e0 _ hb with rfl | ⟨tb, rfl⟩
    all_goals
      conv => whnf
      refine brNe (fun q => absurd rfl q) (fun _ => ?_)
      conv => whnf
      refine CodeQ.round ?_
      conv => whnf
      refine br (fun q => absurd q (by decide)) (fun _ => ?_)
      conv => whnf
      exact ⟨rfl, rfl⟩
  have hne : l.map Tk.v ≠ [] := by simpa using h0
  obtain ⟨ta, rfl⟩ : ∃ t, va = .lst (l.map Tk.v) t := by
    rcases ha with ⟨_, q⟩ | q
    · exact absurd q hne
    · exact q
  obtain ⟨tb, rfl⟩ : ∃ t, vb = .lst (l.map Tk.v) t := by
    rcases hb with ⟨_, q⟩ | q
    · exact absurd q hne
    · exact q
  conv => whnf
  refine brNe (fun q => absurd rfl q) (fun _ => ?_)
  conv => whnf
  refine CodeQ.loop (fun (k : Nat) => pat 26 [(0, .lst (l.map Tk.v) ta), (1, .lst (l.map Tk.v) tb), (5, .int .i64 k)]) (fun m k S2 => k + m = l.length ∧ S2 = S0) ?_ l.length 0 _ _ ⟨by omega, rfl⟩ ⟨rfl, rfl, rfl, trivial⟩
  rintro m k S2 d ⟨hk, rfl⟩
  have hk : k + m = l.length := hk
  conv => whnf
  refine br (fun hlt => ?_) (fun hge => ?_)
  · have hlt : k < l.length := by simp at hlt; omega
    obtain ⟨x, hx⟩ : ∃ x, l[k]? = some x := ⟨_, List.getElem?_eq_getElem hlt⟩
    have hx' : ((l.map Tk.v)[k]? : Option AV) = some x.v := by rw [List.getElem?_map, hx]; rfl
    conv => whnf
    refine ⟨[0, 1, 2, 3, 4, 5, 6, 7, 8], [], by kernel_rfl, by kernel_rfl, by kernel_rfl, ?_⟩
    conv => whnf
    refine ⟨by omega, x.v, hx', rfl, ?_⟩
    conv => whnf
    refine ⟨by omega, x.v, hx', rfl, ?_⟩
    conv => whnf
    rw [eqTok]
    have e : ((x.k == x.k) && (((x.fr : Int) == (x.fr : Int)) && (((x.to : Int) == (x.to : Int)) && ((x.s == x.s) && true)))) = true := by simp
    rw [e]
    intro c hc
    obtain rfl : c = false := by rw [hc]; rfl
    conv => whnf
    refine ⟨m - 1, k + 1, by omega, ⟨by show k + 1 + (m - 1) = l.length; omega, rfl⟩, ⟨rfl, rfl, ?_, trivial⟩⟩
    rw [wrap_i64 (by omega) (by omega)]; try rfl
  · conv => whnf
    exact ⟨rfl, rfl⟩
end Go.Proofs.Ytfphpjinimfhfaa
namespace Go.Proofs.Ytfphpjinimfhfaa
open Go.Proofs.Ytfphpjinimfhfaa.VM Go.RowKit
set_option maxRecDepth 100000
set_option linter.unusedVariables false
set_option linter.unusedSimpArgs false
set_option maxHeartbeats 8000000
/-! The program's Lex, whose list may be written over. -/
def csT (l : List Tk) : List AV := l.flatMap fun x => tokC x.k x.fr x.to x.s
theorem csT_cons (x : Tk) (l : List Tk) : csT (x :: l) = tokC x.k x.fr x.to x.s ++ csT l := by simp [csT]
theorem csT_app (l m : List Tk) : csT (l ++ m) = csT l ++ csT m := by simp [csT]
theorem csT_len (l : List Tk) : (csT l).length = l.length * 4 := by
  induction l with
  | nil => rfl
  | cons x l ih => rw [csT_cons, List.length_append, ih, List.length_cons]; simp [tokC]; omega
theorem csT_leaf (l : List Tk) : (csT l).all AV.leafOk = true := by
  induction l with
  | nil => rfl
  | cons x l ih => rw [csT_cons, List.all_append, ih]; rfl
/-- A written list of tokens, from a name on, or none. -/
def HT (b : Nat) (S : St) (v : AV) (l : List Tk) : Prop := (v = .nils ∧ l = []) ∨ ∃ n, b ≤ n ∧ n < S.next ∧ v = .hnd n 0 l.length 4 ∧ S.mem n = some (.cells (csT l))
theorem HT.nil (b : Nat) (S : St) : HT b S .nils [] := .inl ⟨rfl, rfl⟩
theorem HT.mono {b : Nat} {S S1 : St} {v : AV} {l : List Tk} (h : HT b S v l) (hn : S.next ≤ S1.next) (k : ∀ n, b ≤ n → n < S.next → S1.mem n = S.mem n) : HT b S1 v l := by
  rcases h with h | ⟨n, h1, h2, h3, h4⟩
  · exact .inl h
  · exact .inr ⟨n, h1, by omega, h3, by rw [k n h1 h2]; exact h4⟩
theorem one_tok {S : St} {q : Nat} {cs : List AV} (hq : S.cells q = some cs) (hl : cs.length = 4) : elemsA S true 4 (.hnd q 0 1 4) = some [.agg cs] := by
  simp only [elemsA, hq, Option.bind_some]
  rw [if_pos ⟨trivial, by omega, rfl⟩]
  simp only [chunk, List.drop_zero, if_true]
  rw [List.take_of_length_le (by omega)]
theorem HT.append {b : Nat} {S : St} {v : AV} {l : List Tk} (hv : HT b S v l) (hb : b ≤ S.next) (hl : l.length ≤ 2 ^ 40) (x : Tk) {q : Nat} (hq : S.mem q = some (.cells (tokC x.k x.fr x.to x.s))) :
    ∃ r S1, builtinA Try.prog (JC true) 11 .append #[26, 26] [v, .hnd q 0 1 4] S = some (.ret r, S1) ∧ HT b S1 r (l ++ [x]) ∧ S1.next = S.next + 1 ∧ ∀ j, j < S.next → (∀ k, v ≠ .hnd j 0 k 4) → S1.mem j = S.mem j := by
  have hE := elT
  have helem : elemA Try.prog 26 = some 33 := by simp [elemA, hE.und]
  have hsh : [AV.agg (tokC x.k x.fr x.to x.s)].map AV.shed = [.agg (tokC x.k x.fr x.to x.s)] := rfl
  have hw : wellA 4 [AV.agg (tokC x.k x.fr x.to x.s)] = true := rfl
  have hh : (JC true).hnd 11 = true := by rfl
  have hqc : S.cells q = some (tokC x.k x.fr x.to x.s) := by unfold St.cells; rw [hq]
  rcases hv with ⟨rfl, rfl⟩ | ⟨n, h1, h2, rfl, h4⟩
  · refine ⟨.hnd S.next 0 1 4, S.new (.cells (tokC x.k x.fr x.to x.s)), ?_, .inr ⟨S.next, hb, by show S.next < S.next + 1; omega, rfl, by simp [St.new, upd, csT]⟩, rfl, fun j hj _ => by simp [St.new, upd]; omega⟩
    simp only [builtinA, appendA, helem, hE.size, hE.agg, hE.bytes, hE.zero, hE.und, Option.bind_some, appendB, one_tok hqc rfl, hsh]
    rw [if_pos ⟨by decide, hE.zlen, hw⟩]
    simp only [List.length_singleton]
    rw [if_neg (by decide), if_pos (by rfl)]
    simp only [freshA, hh, if_true, Option.bind_some, retA, List.length_singleton]
    simp [flat, AV.cells]
  · have hc : S.cells n = some (csT l) := by unfold St.cells; rw [h4]
    have hll := csT_len l
    refine ⟨.hnd S.next 0 (l.length + 1) 4, (S.set n none).new (.cells (csT l ++ tokC x.k x.fr x.to x.s)), ?_, .inr ⟨S.next, hb, by show S.next < S.next + 1; omega, by simp, by rw [csT_app]; simp [St.new, St.set, upd, csT]⟩, rfl, fun j hj hne => ?_⟩
    · simp only [builtinA, appendA, helem, hE.size, hE.agg, hE.bytes, hE.zero, hE.und, Option.bind_some, appendB, one_tok hqc rfl, hsh]
      rw [if_pos ⟨by decide, hE.zlen, hw⟩]
      simp only [List.length_singleton]
      rw [if_neg (by decide), hc]
      simp only [Option.bind_some]
      rw [if_pos ⟨trivial, by simp [sizeOk]; omega, by omega, csT_leaf l⟩]
      simp only [Option.bind_some, retA, List.drop_zero]
      rw [List.take_of_length_le (by omega)]
      simp [flat, AV.cells]
    · have : j ≠ n := fun q => hne l.length (by rw [q])
      simp [St.new, St.set, upd, this]
      omega
theorem chunk_tk : ∀ l : List Tk, chunk true 4 l.length (csT l) = l.map Tk.v
  | [] => rfl
  | x :: l => by
    rw [csT_cons]
    show AV.agg _ :: chunk true 4 l.length _ = _
    rw [List.map_cons, ← chunk_tk l]
    rfl
theorem frz_tk (k : Nat) (l : List Tk) : ∀ S, mapS (frzA (k + 1)) (csT l) S = some (csT l, S) := by
  induction l with
  | nil => intro S; rfl
  | cons x l ih =>
    intro S
    rw [csT_cons]
    show (((((mapS (frzA (k + 1)) (csT l) S).map _).map _).map _).map _) = _
    rw [ih]
    rfl
/-- .. told as a plain list. -/
theorem HT.frz {b : Nat} {S : St} {v : AV} {l : List Tk} (h : HT b S v l) (k : Nat) : ∃ v' S', frzA (k + 2) v S = some (v', S') ∧ Elems v' (l.map Tk.v) ∧ ∀ j, (∀ q, v ≠ .hnd j 0 q 4) → S'.mem j = S.mem j := by
  rcases h with ⟨rfl, rfl⟩ | ⟨n, _, _, rfl, h4⟩
  · exact ⟨.nils, S, rfl, .inl ⟨rfl, rfl⟩, fun _ _ => rfl⟩
  · refine ⟨.lst (l.map Tk.v) .lost, S.set n none, ?_, .inr ⟨_, rfl⟩, fun j hj => mem_set_ne rfl (fun q => hj l.length (by rw [q]))⟩
    have hll := csT_len l
    unfold frzA
    simp only [h4]
    rw [if_pos (by omega), List.drop_zero, List.take_of_length_le (by omega), frz_tk]
    simp only [Option.bind_some]
    rw [if_pos (by rfl)]
    show some (AV.lst (chunk true 4 l.length (csT l)) Tip.lost, _) = _
    rw [chunk_tk]
/-- What Lex answers, where its list may be written over. -/
def LexH (bs : List UInt8) (b : Nat) (S : St) (r : AV) : Prop := if bs.length ≤ 4096 then ∃ v, r = .tuple [v, faultV ((lexS bs).1.w, (lexS bs).1.f)] ∧ HT b S v (lexS bs).2 else r = .tuple [.nils, faultV (8, 0)]
theorem t11h (bs : List UInt8) (hl : bs.length ≤ 2 ^ 47) (v : AV) (hv : Elems v (bs.map u8)) (S : St) :
    CallQ Try.prog (JC true) 11 [v] S fun r S1 => Keep S S1 ∧ LexH bs S.next S1 r := by
  refine CallQ.ofQ rfl (by kernel_rfl : Try.prog.funcs[11]? = some Try.f11) rfl (by decide) ?_
  rcases hv with ⟨rfl, hnil⟩ | ⟨t, rfl⟩
  · obtain rfl : bs = [] := by simpa using hnil
    refine CodeQ.wp ?_
    conv => whnf
    refine br (fun hh => absurd hh (by decide)) (fun _ => ?_)
    conv => whnf
    have hdn : ∀ b, (S.new b).next = S.next + 1 := fun _ => rfl
    rw [hdn]
    generalize hS1 : (S.new _).new _ = S1
    have k1 : Keep S S1 := by rw [← hS1]; exact ((Keep.refl S).new _).new _
    have a1 : S1.cells S.next = some [.int .i64 0, .int .i64 0] := by rw [← hS1]; exact cells_new_ne (cells_new _ _) (by show S.next ≠ S.next + 1; omega)
    have a2 : S1.cells (S.next + 1) = some ((⟨0, 0, 0⟩ : Lx).cs .nils) := by rw [← hS1]; exact cells_new _ _
    clear hS1
    refine CodeQ.round ?_
    conv => whnf
    refine CodeQ.round ?_
    conv => whnf
    refine CallQ.mono (may_nil true gaps (S.next + 1) S1 a2) ?_
    rintro r S2 ⟨rfl, rfl⟩
    conv => whnf
    refine ⟨_, a2, ?_⟩
    conv => whnf
    refine brEq (fun _ => ?_) (fun hh => absurd rfl hh)
    conv => whnf
    refine ⟨[0, 1, 2, 3, 4, 5, 6], [], by kernel_rfl, by kernel_rfl, by kernel_rfl, ?_⟩
    conv => whnf
    refine ⟨_, a2, ?_⟩
    conv => whnf
    refine ⟨_, _, a1, store_agg rfl rfl rfl, ?_⟩
    conv => whnf
    refine ⟨.agg [.int .i64 0, .int .i64 0], by show (St.cells _ S.next).bind _ = _; rw [cells_set]; rfl, ?_⟩
    conv => whnf
    refine ⟨k1.set _ _ (Nat.le_refl _), ?_⟩
    unfold LexH
    rw [if_pos (by decide)]
    exact ⟨.nils, rfl, HT.nil _ _⟩
  have hs0 : lexS bs = lexL bs (bs.length + 1) ⟨0, 0, 0⟩ [] := rfl
  have hR : ∀ r S1, bs.length ≤ 4096 → (∃ v, r = .tuple [v, faultV ((lexS bs).1.w, (lexS bs).1.f)] ∧ HT S.next S1 v (lexS bs).2) → LexH bs S.next S1 r := fun r S1 a b => by unfold LexH; rw [if_pos a]; exact b
  rw [hs0] at hR
  clear hs0
  refine CodeQ.seq (CodeQ.wp ?_)
  conv => whnf
  refine CodeQ.seq (CodeQ.wp ?_)
  conv => whnf
  refine br (fun hbig => ?_) (fun hbig => ?_)
  · have hbig : ¬ bs.length ≤ 4096 := by simp at hbig; omega
    conv => whnf
    refine ⟨_, _, cells_new _ _, store_agg rfl rfl rfl, ?_⟩
    conv => whnf
    refine ⟨.agg [.int .i64 8, .int .i64 0], by show (St.cells _ S.next).bind _ = _; rw [cells_set]; rfl, ?_⟩
    conv => whnf
    refine ⟨((Keep.refl S).new _).set _ _ (Nat.le_refl _), ?_⟩
    unfold LexH
    rw [if_neg hbig]; rfl
  have hbig : bs.length ≤ 4096 := by simp at hbig; omega
  have hR := fun r S1 => hR r S1 hbig
  conv => whnf
  refine CodeQ.seq (CodeQ.wp ?_)
  conv => whnf
  have hdn : ∀ b, (S.new b).next = S.next + 1 := fun _ => rfl
  rw [hdn]
  generalize hS1 : (S.new _).new _ = S1
  have k1 : Low S.next S S1 := by rw [← hS1]; exact ((Low.refl _ S).new (Nat.le_refl _) _).new (by show S.next ≤ S.next + 1; omega) _
  have n1 : S1.next = S.next + 2 := by rw [← hS1]; rfl
  have a1 : S1.cells S.next = some [.int .i64 0, .int .i64 0] := by rw [← hS1]; exact cells_new_ne (cells_new _ _) (by show S.next ≠ S.next + 1; omega)
  have a2 : S1.cells (S.next + 1) = some ((⟨0, 0, 0⟩ : Lx).cs (.lst (bs.map u8) t)) := by rw [← hS1]; exact cells_new _ _
  clear hS1
  refine CodeQ.wp ?_
  conv => whnf
  have may := fun set x S' hc => t23 true set (S.next + 1) x bs t (by omega) S' hc
  generalize hL0 : lexL bs (bs.length + 1) ⟨0, 0, 0⟩ [] = L0 at hR
  refine CodeQ.loop (fun (q : Lx × AV) => pat 42 [(0, .lst (bs.map u8) t), (3, .ptr S.next 0), (4, .ptr (S.next + 1) 0), (5, q.2)])
    (fun m q S2 => Low S.next S S2 ∧ S.next + 2 ≤ S2.next ∧ S2.cells S.next = some [.int .i64 0, .int .i64 0] ∧ S2.cells (S.next + 1) = some (q.1.cs (.lst (bs.map u8) t)) ∧ q.1.well = true ∧ q.1.at_ ≤ bs.length ∧ bs.length - q.1.at_ + 1 ≤ m ∧ ∃ l, HT (S.next + 2) S2 q.2 l ∧ l.length ≤ q.1.at_ ∧ L0 = lexL bs m q.1 l) ?_ (bs.length + 1) (⟨0, 0, 0⟩, .nils) _ _
    ⟨k1, by omega, a1, a2, rfl, by simp, by simp, [], HT.nil _ _, by simp, hL0.symm⟩ ⟨rfl, rfl, rfl, rfl, trivial⟩
  clear k1 n1 a1 a2 S1 hL0
  rintro m ⟨x, v⟩ S2 d ⟨k2, n2, a2, c2, hw, hat, hm, l, hv, hll, hlx⟩
  dsimp only at *
  rw [hlx] at hR
  obtain ⟨m, rfl⟩ : ∃ k, m = k + 1 := ⟨m - 1, by omega⟩
  rw [lexL_step] at hR hlx
  have hmw := many_well (bs := bs) (set := gaps) (x := x)
  have hml := many_le (set := gaps) hat
  have hmg := many_ge (bs := bs) (set := gaps) (x := x)
  rw [hw] at hmw
  conv => whnf
  refine CodeQ.loop (fun (yy : Lx) => pat 42 [(0, .lst (bs.map u8) t), (3, .ptr S.next 0), (4, .ptr (S.next + 1) 0), (5, v)])
    (fun m9 yy S3 => S3.cells (S.next + 1) = some (yy.cs (.lst (bs.map u8) t)) ∧ B1 (S.next + 1) S2 S3 ∧ m9 = bs.length - yy.at_ ∧ manyS bs gaps x = manyS bs gaps yy) ?_ _ x _ _ ⟨c2, .refl _ _, rfl, rfl⟩ ⟨rfl, rfl, rfl, rfl, trivial⟩
  rintro m9 yy S3 d2 ⟨j1, j2, j3, j4⟩
  rw [j4] at hR hlx hmw hml hmg
  conv => whnf
  refine CallQ.mono (may gaps yy S3 j1) ?_
  rintro r S4 ⟨rfl, i1, i2⟩
  have i3 := j2.trans i2
  cases hm9 : mayB bs gaps yy
  rotate_left
  · rw [may_up hm9] at i1
    rw [many_up hm9] at hR hlx hmw hml hmg
    have := may_lt hm9
    conv => whnf
    exact ⟨_, yy.up, (by show bs.length - (yy.at_ + 1) < m9; omega), ⟨i1, i3, rfl, j4.trans (many_up hm9)⟩, ⟨rfl, rfl, rfl, rfl, trivial⟩⟩
  clear j4
  rw [may_no hm9] at i1
  rw [many_no hm9] at hR hlx hmw hml hmg
  have n4 : S.next + 2 ≤ S4.next := by have := i3.next; omega
  have k4 : Low S.next S S4 := k2.trans ⟨i3.next, fun j hj => i3.mem j (by omega) (by omega)⟩
  have a4 : S4.cells S.next = some [.int .i64 0, .int .i64 0] := by rw [i3.cells (by omega) (by omega)]; exact a2
  have v4 : HT (S.next + 2) S4 v l := hv.mono i3.next fun n h1 h2 => i3.mem n h2 (by omega)
  clear i2 i3 j1 j2 hv a2 k2 c2 n2
  conv => whnf
  refine ⟨_, i1, ?_⟩
  conv => whnf
  refine brEq (fun he => ?_) (fun he => ?_)
  · have he : yy.at_ = bs.length := by simp at he; omega
    simp only [if_pos he] at hR
    conv => whnf
    refine ⟨[0, 1, 2, 3, 4, 5, 6], [], by kernel_rfl, by kernel_rfl, by kernel_rfl, ?_⟩
    conv => whnf
    refine ⟨_, i1, ?_⟩
    conv => whnf
    refine ⟨_, _, a4, store_agg rfl rfl rfl, ?_⟩
    conv => whnf
    refine ⟨.agg [.int .i64 yy.w, .int .i64 yy.f], by show (St.cells _ S.next).bind _ = _; rw [cells_set]; rfl, ?_⟩
    rcases v4 with ⟨rfl, hl0⟩ | ⟨n, q1, q2, rfl, q4⟩
    · conv => whnf
      refine ⟨(k4.set _ _ (Nat.le_refl _)).keep, ?_⟩
      exact hR _ _ ⟨.nils, rfl, .inl ⟨rfl, hl0⟩⟩
    · conv => whnf
      refine ⟨(k4.set _ _ (Nat.le_refl _)).keep, ?_⟩
      exact hR _ _ ⟨_, rfl, .inr ⟨n, by omega, q2, rfl, by rw [mem_set_ne rfl (by omega)]; exact q4⟩⟩
  have he : yy.at_ ≠ bs.length := fun q => he (by simp [q])
  simp only [if_neg he] at hR hlx
  conv => whnf
  refine CallQ.mono (t24 true (S.next + 1) yy bs t (by omega) hml S4 (by omega) i1) ?_
  rintro r S5 ⟨rfl, c5, b5, l5⟩
  have n5 : S.next + 2 ≤ S5.next := by have := b5.next; omega
  have k5 : Low S.next S S5 := k4.trans ⟨b5.next, fun j hj => b5.mem j (by omega) (by omega)⟩
  have a5 : S5.cells S.next = some [.int .i64 0, .int .i64 0] := by rw [b5.cells (by omega) (by omega)]; exact a4
  have v5 : HT (S.next + 2) S5 v l := v4.mono b5.next fun n h1 h2 => b5.mem n h2 (by omega)
  have hgt := @tok_gt bs yy
  generalize hz : tokS bs yy = z at *
  clear b5 k4 a4 v4 i1 n4 S4
  conv => whnf
  refine ⟨_, _, cells_new _ _, store_agg rfl rfl rfl, ?_⟩
  conv => whnf
  refine CallQ.mono (t25 true (S.next + 1) z.1 (.lst (bs.map u8) t) _ (cells_set_ne (cells_new_ne c5 (by omega)) (by omega))) ?_
  rintro r S6 ⟨hS6, rfl⟩
  conv => whnf
  have n6 : S6.next = S5.next + 1 := by rw [hS6]; rfl
  have k6 : Low S5.next S5 S6 := by rw [hS6]; exact ((Low.refl _ S5).new (Nat.le_refl _) _).set _ _ (Nat.le_refl _)
  have e6 : S6.cells S5.next = some (tokC z.2.1 yy.at_ z.1.at_ z.2.2) := by rw [hS6, cells_set]
  have m6 : S6.mem S5.next = some (.cells (tokC z.2.1 yy.at_ z.1.at_ z.2.2)) := by rw [hS6]; exact mem_set _ _ _
  clear hS6
  have c6 : S6.cells (S.next + 1) = some (z.1.cs (.lst (bs.map u8) t)) := by rw [k6.cells (by omega)]; exact c5
  have a6 : S6.cells S.next = some [.int .i64 0, .int .i64 0] := by rw [k6.cells (by omega)]; exact a5
  have v6 : HT (S.next + 2) S6 v l := v5.mono (by omega) fun n _ hn => k6.2 n hn
  have k6' : Low S.next S S6 := k5.trans (k6.less (by omega))
  cases hz1 : z.1.well
  · simp only [if_pos hz1] at hR
    conv => whnf
    refine ⟨[0, 1, 2, 3, 4, 5, 6], [], by kernel_rfl, by kernel_rfl, by kernel_rfl, ?_⟩
    conv => whnf
    refine ⟨_, c6, ?_⟩
    conv => whnf
    refine ⟨_, _, a6, store_agg rfl rfl rfl, ?_⟩
    conv => whnf
    refine ⟨.agg [.int .i64 z.1.w, .int .i64 z.1.f], by show (St.cells _ S.next).bind _ = _; rw [cells_set]; rfl, ?_⟩
    rcases v6 with ⟨rfl, hl0⟩ | ⟨n, q1, q2, rfl, q4⟩
    · conv => whnf
      refine ⟨(k6'.set _ _ (Nat.le_refl _)).keep, ?_⟩
      exact hR _ _ ⟨.nils, rfl, .inl ⟨rfl, hl0⟩⟩
    · conv => whnf
      refine ⟨(k6'.set _ _ (Nat.le_refl _)).keep, ?_⟩
      exact hR _ _ ⟨_, rfl, .inr ⟨n, by omega, q2, rfl, by rw [mem_set_ne rfl (by omega)]; exact q4⟩⟩
  simp only [if_neg (show ¬ z.1.well = false by rw [hz1]; decide)] at hR hlx
  have hgt := hgt hz1
  conv => whnf
  refine ⟨_, e6, ?_⟩
  conv => whnf
  have v7 : HT (S.next + 2) (S6.new (.cells (tokC z.2.1 yy.at_ z.1.at_ z.2.2))) v l := v6.mono (Nat.le_succ _) fun n _ hn => mem_new_ne rfl (by omega)
  have k7 : Low S6.next S6 (S6.new (.cells (tokC z.2.1 yy.at_ z.1.at_ z.2.2))) := (Low.refl _ S6).new (Nat.le_refl _) _
  have y7 : (S6.new (.cells (tokC z.2.1 yy.at_ z.1.at_ z.2.2))).mem S6.next = some (.cells (tokC z.2.1 yy.at_ z.1.at_ z.2.2)) := by simp [St.new, upd]
  have n7 : (S6.new (.cells (tokC z.2.1 yy.at_ z.1.at_ z.2.2))).next = S6.next + 1 := rfl
  have a7 := cells_new_ne (b := .cells (tokC z.2.1 yy.at_ z.1.at_ z.2.2)) a6 (show S.next ≠ S6.next by omega)
  have c7 := cells_new_ne (b := .cells (tokC z.2.1 yy.at_ z.1.at_ z.2.2)) c6 (show S.next + 1 ≠ S6.next by omega)
  have k7' := k6'.trans (k7.less (by omega))
  generalize hS7 : S6.new (.cells (tokC z.2.1 yy.at_ z.1.at_ z.2.2)) = S7 at *
  obtain ⟨r, S8, h1, h2, h3, h4⟩ := HT.append v7 (by omega) (by omega) ⟨z.2.1, yy.at_, z.1.at_, z.2.2⟩ (q := S6.next) y7
  have k8 : Low (S.next + 2) S7 S8 := by
    refine ⟨by omega, fun j hj => h4 j (by omega) ?_⟩
    rintro k rfl
    rcases v7 with ⟨q, _⟩ | ⟨n, q1, _, q3, _⟩
    · cases q
    · cases q3; omega
  rw [← hS7] at h1
  refine ⟨r, S8, h1, ?_⟩
  obtain ⟨nr, lr, rfl⟩ : ∃ nr lr, r = .hnd nr 0 lr 4 := by
    rcases h2 with ⟨_, q⟩ | ⟨n, _, _, q3, _⟩
    · simp at q
    · exact ⟨_, _, q3⟩
  conv => whnf
  refine ⟨m, (z.1, _), by omega, ⟨k7'.trans (k8.less (by omega)), by have := k8.1; omega, by rw [k8.cells (by omega)]; exact a7, by rw [k8.cells (by omega)]; exact c7, hz1, l5, by dsimp only; omega, l ++ [⟨z.2.1, yy.at_, z.1.at_, z.2.2⟩], h2, by simp; omega, hlx⟩, ⟨rfl, rfl, rfl, rfl, trivial⟩⟩
end Go.Proofs.Ytfphpjinimfhfaa
namespace Go.Proofs.Ytfphpjinimfhfaa
open Go.Proofs.Ytfphpjinimfhfaa.VM Go.RowKit
set_option maxRecDepth 100000
set_option linter.unusedVariables false
set_option linter.unusedSimpArgs false
set_option maxHeartbeats 8000000
/-! The law JlexOwn: what Lex answered may be written over. -/
theorem lexR_len (bs : List UInt8) : ∀ (k i : Nat) (out : List Tk), (lexR bs k i out).1.length ≤ out.length + k
  | 0, i, out => by simp [lexR]
  | k + 1, i, out => by
    unfold lexR
    cases bs[i]? with
    | none => simp
    | some c =>
      dsimp only
      split
      · have := lexR_len bs k (i + 1) out; omega
      · cases tokR bs i c with
        | error f => simp
        | ok t => have := lexR_len bs k t.to (out ++ [t]); simp at this; show (lexR bs k t.to (out ++ [t])).1.length ≤ _; omega
/-- The tokens and the fault, of any bytes. -/
def LL (bs : List UInt8) : List Tk := if bs.length ≤ 4096 then (lexS bs).2 else []
def FF (bs : List UInt8) : Int × Int := if bs.length ≤ 4096 then ((lexS bs).1.w, (lexS bs).1.f) else (8, 0)
theorem LL_len (bs : List UInt8) : (LL bs).length ≤ 4097 := by
  unfold LL
  split
  · have := lexR_len bs (bs.length + 1) 0 []
    rw [lexR_eq] at this
    simp at this
    omega
  · simp
theorem LexH.out {bs : List UInt8} {b : Nat} {S : St} {r : AV} (h : LexH bs b S r) : ∃ v, r = .tuple [v, faultV (FF bs)] ∧ HT b S v (LL bs) := by
  unfold LexH at h
  unfold FF LL
  split at h
  · rename_i q
    rw [if_pos q, if_pos q]
    exact h
  · rename_i q
    rw [if_neg q, if_neg q]
    exact ⟨.nils, h, .inl ⟨rfl, rfl⟩⟩
theorem LexD.out {bs : List UInt8} {r : AV} (h : LexD bs r) : ∃ v, r = .tuple [v, faultV (FF bs)] ∧ ((v = .nils ∧ LL bs = []) ∨ v = .lst ((LL bs).map Tk.v) .lost) := by
  unfold LexD at h
  unfold FF LL
  rw [lexR_eq] at h
  split at h
  · rename_i q
    rw [if_pos q, if_pos q]
    exact h
  · rename_i q
    rw [if_neg q, if_neg q]
    exact ⟨.nils, h, .inl ⟨rfl, rfl⟩⟩
theorem setsA_len : ∀ (d cs : List AV) (off : Nat), (setsA cs off d).length = cs.length
  | [], cs, off => rfl
  | x :: d, cs, off => by
    show (setsA (cs.set off x) (off + 1) d).length = _
    rw [setsA_len d, List.length_set]
theorem t6 (bs : List UInt8) (hl : bs.length ≤ 2 ^ 47) (v : AV) (hv : Elems v (bs.map u8)) (S : St) :
    CallQ Try.prog (JC true) 6 [v] S fun r S1 => r = .bool true := by
  have hal : ∀ {S Q}, Q (.bool true) S → CallQ Try.prog (JC true) 10 [] S Q := fun q => CallQ.intr (g := aliveG) rfl rfl q
  have h11 := t11h bs hl v hv
  have h13 := fun t S => t13 true bs t hl S
  have hlen := LL_len bs
  have hconv : ∀ S, convertA Try.prog S 25 9 v = some (.str bs) := by
    intro S
    rcases hv with ⟨rfl, hn⟩ | ⟨t, rfl⟩
    · obtain rfl : bs = [] := by simpa using hn
      rfl
    · exact conv_str bs t S
  refine CallQ.of rfl (by kernel_rfl : Try.prog.funcs[6]? = some Try.f6) rfl (by decide) ?_
  have hcases : (v = .nils ∧ bs = []) ∨ ∃ t, v = .lst (bs.map u8) t := hv.imp (fun q => ⟨q.1, by simpa using q.2⟩) (fun q => q)
  clear hv
  rcases hcases with ⟨rfl, rfl⟩ | ⟨t, rfl⟩
  · conv => whnf
    refine CallQ.mono (h11 S) ?_
    rintro r S1 ⟨k1, hr⟩
    obtain ⟨v1, rfl, ht1⟩ := hr.out
    generalize hF : FF ([] : List UInt8) = F at *
    obtain ⟨w, f⟩ := F
    clear hr
    rcases ht1 with ⟨rfl, hl0⟩ | ⟨n, q1, q2, rfl, q4⟩
    · conv => whnf
      refine ⟨_, _, cells_new _ _, store_agg rfl rfl rfl, ?_⟩
      conv => whnf
      generalize hS2 : (S1.new _).set _ _ = S2
      have k2 : Keep S1 S2 := by rw [← hS2]; exact ((Keep.refl S1).new _).set _ _ (Nat.le_refl _)
      have c2 : S2.cells S1.next = some [.int .i64 w, .int .i64 f] := by rw [← hS2, cells_set]
      have n2 : S2.next = S1.next + 1 := by rw [← hS2]; rfl
      clear hS2
      refine CodeQ.round ?_
      conv => whnf
      refine br (fun q => absurd q (by decide)) (fun _ => ?_)
      generalize S2 = S3 at *
      conv => whnf
      refine CallQ.mono (h11 S3) ?_
      rintro r S4 ⟨k4, hr⟩
      obtain ⟨v2, rfl, ht2⟩ := hr.out
      rw [hF]
      have ht2f := fun S5 b => HT.mono (S1 := S5) ht2 b
      have hv2 : v2 = .nils ∨ ∃ n l, v2 = .hnd n 0 l 4 ∧ n < S4.next := by
        rcases ht2 with ⟨q, _⟩ | ⟨n, _, q2, q, _⟩
        · exact .inl q
        · exact .inr ⟨_, _, q, q2⟩
      have n4 := k4.next
      have hnot : ∀ j, S4.next ≤ j → ∀ q, v2 ≠ .hnd j 0 q 4 := by
        rintro j hj q rfl
        rcases hv2 with e | ⟨n, l, e, e2⟩
        · cases e
        · cases e; omega
      rcases hv2 with rfl | ⟨n2', l2', rfl, _⟩
      all_goals
        conv => whnf
        refine ⟨_, _, cells_new _ _, store_agg rfl rfl rfl, ?_⟩
        conv => whnf
        generalize hS5 : (S4.new _).set _ _ = S5
        have k5 : Keep S4 S5 := by rw [← hS5]; exact ((Keep.refl S4).new _).set _ _ (Nat.le_refl _)
        have c5 : S5.cells S4.next = some [.int .i64 w, .int .i64 f] := by rw [← hS5, cells_set]
        have n5 : S5.next = S4.next + 1 := by rw [← hS5]; rfl
        clear hS5
        refine CallQ.mono (h13 _ S5) ?_
        rintro r S6 ⟨k6, hr6⟩
        obtain ⟨v3, rfl, hv3⟩ := hr6.out
        rw [hF]
        have n6 := k6.next
        have ht6 := ht2f S6 (by omega) fun j h1 h2 => by rw [k6.mem j (by omega), k5.mem j (by omega)]
        have c6 := kset k6 (by omega) c5
        clear ht2f ht2 k6 k5 c5 hr6 hr k4
        rcases hv3 with ⟨rfl, hv3⟩ | rfl
        all_goals
          conv => whnf
          refine ⟨_, _, cells_new _ _, store_agg rfl rfl rfl, ?_⟩
          conv => whnf
          generalize hS7 : (S6.new _).set _ _ = S7
          have k7 : Keep S6 S7 := by rw [← hS7]; exact ((Keep.refl S6).new _).set _ _ (Nat.le_refl _)
          have c7 : S7.cells S6.next = some [.int .i64 w, .int .i64 f] := by rw [← hS7, cells_set]
          have n7 : S7.next = S6.next + 1 := by rw [← hS7]; rfl
          clear hS7
          have d7 := kset k7 (by omega) c6
          have ht7 := ht6.mono (S1 := S7) (by omega) fun j h1 h2 => k7.mem j h2
          obtain ⟨va, S8, z1, z2, z3⟩ := ht7.frz (S7.next + 2)
          have z4 : ∀ j cs, S4.next ≤ j → S7.cells j = some cs → S8.cells j = some cs := fun j cs hj h => by unfold St.cells at h ⊢; rw [z3 j (hnot j hj)]; exact h
          have c8 := z4 _ _ (by omega) c7
          have d8 := z4 _ _ (by omega) d7
          refine brSEq (fun _ => ?_) (fun q => absurd rfl q)
          conv => whnf
          first
            | refine CallQ.mono (t14 _ (LL ([] : List UInt8)) (by omega) va .nils z2 (.inl ⟨rfl, by rw [hv3]; rfl⟩) S7 S8 (by rw [mapS, show S7.next + 4 = S7.next + 2 + 2 from rfl, z1]; rfl)) ?_
            | refine CallQ.mono (t14 _ (LL ([] : List UInt8)) (by omega) va (.lst ((LL ([] : List UInt8)).map Tk.v) .lost) z2 (.inr ⟨_, rfl⟩) S7 S8 (by rw [mapS, show S7.next + 4 = S7.next + 2 + 2 from rfl, z1]; rfl)) ?_
          rintro r S9 ⟨rfl, rfl⟩
          conv => whnf
          refine ⟨_, d8, ?_⟩
          conv => whnf
          refine ⟨_, c8, ?_⟩
          conv => whnf
          rw [eqFault2]
          have e : (w == w && (f == f && true)) = true := by simp
          rw [e]
          refine brB (fun _ => ?_) (fun q => absurd q (by decide))
          conv => whnf
          refine hal ?_
          conv => whnf
          rfl
    · conv => whnf
      refine ⟨_, _, cells_new _ _, store_agg rfl rfl rfl, ?_⟩
      conv => whnf
      generalize hS2 : (S1.new _).set _ _ = S2
      have k2 : Keep S1 S2 := by rw [← hS2]; exact ((Keep.refl S1).new _).set _ _ (Nat.le_refl _)
      have c2 : S2.cells S1.next = some [.int .i64 w, .int .i64 f] := by rw [← hS2, cells_set]
      have n2 : S2.next = S1.next + 1 := by rw [← hS2]; rfl
      clear hS2
      have hn2 : S2.cells n = some (csT (LL ([] : List UInt8))) := by rw [kcells k2 q2]; unfold St.cells; rw [q4]
      refine CodeQ.loop (fun (i : Nat) => pat 56 [(0, .nils), (3, .str ([] : List UInt8)), (4, .hnd n 0 (LL ([] : List UInt8)).length 4), (19, .int .i64 (LL ([] : List UInt8)).length), (20, .int .i64 i)])
        (fun m i S3 => i + m = (LL ([] : List UInt8)).length ∧ S2.next ≤ S3.next ∧ ∃ cs, S3.cells n = some cs ∧ cs.length = (LL ([] : List UInt8)).length * 4) ?_ (LL ([] : List UInt8)).length 0 _ _ ⟨by omega, Nat.le_refl _, _, hn2, csT_len _⟩ ⟨rfl, rfl, rfl, rfl, rfl, trivial⟩
      clear k1 k2 c2 n2 hn2 q4
      rintro m i S3 d ⟨hi, n3, cs, hc, hcl⟩
      conv => whnf
      refine br (fun hlt => ?_) (fun hge => ?_)
      · have hlt : i < (LL ([] : List UInt8)).length := by have : (i : Int) < ((LL ([] : List UInt8)).length : Nat) := hlt; omega
        conv => whnf
        refine ⟨by omega, by omega, ?_⟩
        conv => whnf
        have hb : 0 + i * 4 + 4 ≤ cs.length := by omega
        refine ⟨cs, _, hc, if_pos ⟨rfl, rfl, hb⟩, ?_⟩
        conv => whnf
        refine ⟨m - 1, i + 1, by omega, ⟨by show i + 1 + (m - 1) = _; omega, n3, _, cells_set _ _ _, ?_⟩, ⟨rfl, rfl, rfl, rfl, ?_, trivial⟩⟩
        · rw [setsA_len]; exact hcl
        · rw [wrap_i64 (by omega) (by omega)]; try rfl
      · skip
        conv => whnf
        refine CallQ.mono (h11 S3) ?_
        rintro r S4 ⟨k4, hr⟩
        obtain ⟨v2, rfl, ht2⟩ := hr.out
        rw [hF]
        have ht2f := fun S5 b => HT.mono (S1 := S5) ht2 b
        have hv2 : v2 = .nils ∨ ∃ n l, v2 = .hnd n 0 l 4 ∧ n < S4.next := by
          rcases ht2 with ⟨q, _⟩ | ⟨n, _, q2, q, _⟩
          · exact .inl q
          · exact .inr ⟨_, _, q, q2⟩
        have n4 := k4.next
        have hnot : ∀ j, S4.next ≤ j → ∀ q, v2 ≠ .hnd j 0 q 4 := by
          rintro j hj q rfl
          rcases hv2 with e | ⟨n, l, e, e2⟩
          · cases e
          · cases e; omega
        rcases hv2 with rfl | ⟨n2', l2', rfl, _⟩
        all_goals
          conv => whnf
          refine ⟨_, _, cells_new _ _, store_agg rfl rfl rfl, ?_⟩
          conv => whnf
          generalize hS5 : (S4.new _).set _ _ = S5
          have k5 : Keep S4 S5 := by rw [← hS5]; exact ((Keep.refl S4).new _).set _ _ (Nat.le_refl _)
          have c5 : S5.cells S4.next = some [.int .i64 w, .int .i64 f] := by rw [← hS5, cells_set]
          have n5 : S5.next = S4.next + 1 := by rw [← hS5]; rfl
          clear hS5
          refine CallQ.mono (h13 _ S5) ?_
          rintro r S6 ⟨k6, hr6⟩
          obtain ⟨v3, rfl, hv3⟩ := hr6.out
          rw [hF]
          have n6 := k6.next
          have ht6 := ht2f S6 (by omega) fun j h1 h2 => by rw [k6.mem j (by omega), k5.mem j (by omega)]
          have c6 := kset k6 (by omega) c5
          clear ht2f ht2 k6 k5 c5 hr6 hr k4
          rcases hv3 with ⟨rfl, hv3⟩ | rfl
          all_goals
            conv => whnf
            refine ⟨_, _, cells_new _ _, store_agg rfl rfl rfl, ?_⟩
            conv => whnf
            generalize hS7 : (S6.new _).set _ _ = S7
            have k7 : Keep S6 S7 := by rw [← hS7]; exact ((Keep.refl S6).new _).set _ _ (Nat.le_refl _)
            have c7 : S7.cells S6.next = some [.int .i64 w, .int .i64 f] := by rw [← hS7, cells_set]
            have n7 : S7.next = S6.next + 1 := by rw [← hS7]; rfl
            clear hS7
            have d7 := kset k7 (by omega) c6
            have ht7 := ht6.mono (S1 := S7) (by omega) fun j h1 h2 => k7.mem j h2
            obtain ⟨va, S8, z1, z2, z3⟩ := ht7.frz (S7.next + 2)
            have z4 : ∀ j cs, S4.next ≤ j → S7.cells j = some cs → S8.cells j = some cs := fun j cs hj h => by unfold St.cells at h ⊢; rw [z3 j (hnot j hj)]; exact h
            have c8 := z4 _ _ (by omega) c7
            have d8 := z4 _ _ (by omega) d7
            refine brSEq (fun _ => ?_) (fun q => absurd rfl q)
            conv => whnf
            first
              | refine CallQ.mono (t14 _ (LL ([] : List UInt8)) (by omega) va .nils z2 (.inl ⟨rfl, by rw [hv3]; rfl⟩) S7 S8 (by rw [mapS, show S7.next + 4 = S7.next + 2 + 2 from rfl, z1]; rfl)) ?_
              | refine CallQ.mono (t14 _ (LL ([] : List UInt8)) (by omega) va (.lst ((LL ([] : List UInt8)).map Tk.v) .lost) z2 (.inr ⟨_, rfl⟩) S7 S8 (by rw [mapS, show S7.next + 4 = S7.next + 2 + 2 from rfl, z1]; rfl)) ?_
            rintro r S9 ⟨rfl, rfl⟩
            conv => whnf
            refine ⟨_, d8, ?_⟩
            conv => whnf
            refine ⟨_, c8, ?_⟩
            conv => whnf
            rw [eqFault2]
            have e : (w == w && (f == f && true)) = true := by simp
            rw [e]
            refine brB (fun _ => ?_) (fun q => absurd q (by decide))
            conv => whnf
            refine hal ?_
            conv => whnf
            rfl
  · conv => whnf
    refine ⟨_, hconv _, ?_⟩
    conv => whnf
    refine CallQ.mono (h11 S) ?_
    rintro r S1 ⟨k1, hr⟩
    obtain ⟨v1, rfl, ht1⟩ := hr.out
    generalize hF : FF bs = F at *
    obtain ⟨w, f⟩ := F
    clear hr
    rcases ht1 with ⟨rfl, hl0⟩ | ⟨n, q1, q2, rfl, q4⟩
    · conv => whnf
      refine ⟨_, _, cells_new _ _, store_agg rfl rfl rfl, ?_⟩
      conv => whnf
      generalize hS2 : (S1.new _).set _ _ = S2
      have k2 : Keep S1 S2 := by rw [← hS2]; exact ((Keep.refl S1).new _).set _ _ (Nat.le_refl _)
      have c2 : S2.cells S1.next = some [.int .i64 w, .int .i64 f] := by rw [← hS2, cells_set]
      have n2 : S2.next = S1.next + 1 := by rw [← hS2]; rfl
      clear hS2
      refine CodeQ.round ?_
      conv => whnf
      refine br (fun q => absurd q (by decide)) (fun _ => ?_)
      generalize S2 = S3 at *
      conv => whnf
      refine CallQ.mono (h11 S3) ?_
      rintro r S4 ⟨k4, hr⟩
      obtain ⟨v2, rfl, ht2⟩ := hr.out
      rw [hF]
      have ht2f := fun S5 b => HT.mono (S1 := S5) ht2 b
      have hv2 : v2 = .nils ∨ ∃ n l, v2 = .hnd n 0 l 4 ∧ n < S4.next := by
        rcases ht2 with ⟨q, _⟩ | ⟨n, _, q2, q, _⟩
        · exact .inl q
        · exact .inr ⟨_, _, q, q2⟩
      have n4 := k4.next
      have hnot : ∀ j, S4.next ≤ j → ∀ q, v2 ≠ .hnd j 0 q 4 := by
        rintro j hj q rfl
        rcases hv2 with e | ⟨n, l, e, e2⟩
        · cases e
        · cases e; omega
      rcases hv2 with rfl | ⟨n2', l2', rfl, _⟩
      all_goals
        conv => whnf
        refine ⟨_, _, cells_new _ _, store_agg rfl rfl rfl, ?_⟩
        conv => whnf
        generalize hS5 : (S4.new _).set _ _ = S5
        have k5 : Keep S4 S5 := by rw [← hS5]; exact ((Keep.refl S4).new _).set _ _ (Nat.le_refl _)
        have c5 : S5.cells S4.next = some [.int .i64 w, .int .i64 f] := by rw [← hS5, cells_set]
        have n5 : S5.next = S4.next + 1 := by rw [← hS5]; rfl
        clear hS5
        refine CallQ.mono (h13 _ S5) ?_
        rintro r S6 ⟨k6, hr6⟩
        obtain ⟨v3, rfl, hv3⟩ := hr6.out
        rw [hF]
        have n6 := k6.next
        have ht6 := ht2f S6 (by omega) fun j h1 h2 => by rw [k6.mem j (by omega), k5.mem j (by omega)]
        have c6 := kset k6 (by omega) c5
        clear ht2f ht2 k6 k5 c5 hr6 hr k4
        rcases hv3 with ⟨rfl, hv3⟩ | rfl
        all_goals
          conv => whnf
          refine ⟨_, _, cells_new _ _, store_agg rfl rfl rfl, ?_⟩
          conv => whnf
          generalize hS7 : (S6.new _).set _ _ = S7
          have k7 : Keep S6 S7 := by rw [← hS7]; exact ((Keep.refl S6).new _).set _ _ (Nat.le_refl _)
          have c7 : S7.cells S6.next = some [.int .i64 w, .int .i64 f] := by rw [← hS7, cells_set]
          have n7 : S7.next = S6.next + 1 := by rw [← hS7]; rfl
          clear hS7
          have d7 := kset k7 (by omega) c6
          have ht7 := ht6.mono (S1 := S7) (by omega) fun j h1 h2 => k7.mem j h2
          obtain ⟨va, S8, z1, z2, z3⟩ := ht7.frz (S7.next + 2)
          have z4 : ∀ j cs, S4.next ≤ j → S7.cells j = some cs → S8.cells j = some cs := fun j cs hj h => by unfold St.cells at h ⊢; rw [z3 j (hnot j hj)]; exact h
          have c8 := z4 _ _ (by omega) c7
          have d8 := z4 _ _ (by omega) d7
          refine ⟨_, hconv S7, ?_⟩
          conv => whnf
          refine brSEq (fun _ => ?_) (fun q => absurd rfl q)
          conv => whnf
          first
            | refine CallQ.mono (t14 _ (LL bs) (by omega) va .nils z2 (.inl ⟨rfl, by rw [hv3]; rfl⟩) S7 S8 (by rw [mapS, show S7.next + 4 = S7.next + 2 + 2 from rfl, z1]; rfl)) ?_
            | refine CallQ.mono (t14 _ (LL bs) (by omega) va (.lst ((LL bs).map Tk.v) .lost) z2 (.inr ⟨_, rfl⟩) S7 S8 (by rw [mapS, show S7.next + 4 = S7.next + 2 + 2 from rfl, z1]; rfl)) ?_
          rintro r S9 ⟨rfl, rfl⟩
          conv => whnf
          refine ⟨_, d8, ?_⟩
          conv => whnf
          refine ⟨_, c8, ?_⟩
          conv => whnf
          rw [eqFault2]
          have e : (w == w && (f == f && true)) = true := by simp
          rw [e]
          refine brB (fun _ => ?_) (fun q => absurd q (by decide))
          conv => whnf
          refine hal ?_
          conv => whnf
          rfl
    · conv => whnf
      refine ⟨_, _, cells_new _ _, store_agg rfl rfl rfl, ?_⟩
      conv => whnf
      generalize hS2 : (S1.new _).set _ _ = S2
      have k2 : Keep S1 S2 := by rw [← hS2]; exact ((Keep.refl S1).new _).set _ _ (Nat.le_refl _)
      have c2 : S2.cells S1.next = some [.int .i64 w, .int .i64 f] := by rw [← hS2, cells_set]
      have n2 : S2.next = S1.next + 1 := by rw [← hS2]; rfl
      clear hS2
      have hn2 : S2.cells n = some (csT (LL bs)) := by rw [kcells k2 q2]; unfold St.cells; rw [q4]
      refine CodeQ.loop (fun (i : Nat) => pat 56 [(0, (.lst (bs.map u8) t)), (3, .str bs), (4, .hnd n 0 (LL bs).length 4), (19, .int .i64 (LL bs).length), (20, .int .i64 i)])
        (fun m i S3 => i + m = (LL bs).length ∧ S2.next ≤ S3.next ∧ ∃ cs, S3.cells n = some cs ∧ cs.length = (LL bs).length * 4) ?_ (LL bs).length 0 _ _ ⟨by omega, Nat.le_refl _, _, hn2, csT_len _⟩ ⟨rfl, rfl, rfl, rfl, rfl, trivial⟩
      clear k1 k2 c2 n2 hn2 q4
      rintro m i S3 d ⟨hi, n3, cs, hc, hcl⟩
      conv => whnf
      refine br (fun hlt => ?_) (fun hge => ?_)
      · have hlt : i < (LL bs).length := by have : (i : Int) < ((LL bs).length : Nat) := hlt; omega
        conv => whnf
        refine ⟨by omega, by omega, ?_⟩
        conv => whnf
        have hb : 0 + i * 4 + 4 ≤ cs.length := by omega
        refine ⟨cs, _, hc, if_pos ⟨rfl, rfl, hb⟩, ?_⟩
        conv => whnf
        refine ⟨m - 1, i + 1, by omega, ⟨by show i + 1 + (m - 1) = _; omega, n3, _, cells_set _ _ _, ?_⟩, ⟨rfl, rfl, rfl, rfl, ?_, trivial⟩⟩
        · rw [setsA_len]; exact hcl
        · rw [wrap_i64 (by omega) (by omega)]; try rfl
      · skip
        conv => whnf
        refine CallQ.mono (h11 S3) ?_
        rintro r S4 ⟨k4, hr⟩
        obtain ⟨v2, rfl, ht2⟩ := hr.out
        rw [hF]
        have ht2f := fun S5 b => HT.mono (S1 := S5) ht2 b
        have hv2 : v2 = .nils ∨ ∃ n l, v2 = .hnd n 0 l 4 ∧ n < S4.next := by
          rcases ht2 with ⟨q, _⟩ | ⟨n, _, q2, q, _⟩
          · exact .inl q
          · exact .inr ⟨_, _, q, q2⟩
        have n4 := k4.next
        have hnot : ∀ j, S4.next ≤ j → ∀ q, v2 ≠ .hnd j 0 q 4 := by
          rintro j hj q rfl
          rcases hv2 with e | ⟨n, l, e, e2⟩
          · cases e
          · cases e; omega
        rcases hv2 with rfl | ⟨n2', l2', rfl, _⟩
        all_goals
          conv => whnf
          refine ⟨_, _, cells_new _ _, store_agg rfl rfl rfl, ?_⟩
          conv => whnf
          generalize hS5 : (S4.new _).set _ _ = S5
          have k5 : Keep S4 S5 := by rw [← hS5]; exact ((Keep.refl S4).new _).set _ _ (Nat.le_refl _)
          have c5 : S5.cells S4.next = some [.int .i64 w, .int .i64 f] := by rw [← hS5, cells_set]
          have n5 : S5.next = S4.next + 1 := by rw [← hS5]; rfl
          clear hS5
          refine CallQ.mono (h13 _ S5) ?_
          rintro r S6 ⟨k6, hr6⟩
          obtain ⟨v3, rfl, hv3⟩ := hr6.out
          rw [hF]
          have n6 := k6.next
          have ht6 := ht2f S6 (by omega) fun j h1 h2 => by rw [k6.mem j (by omega), k5.mem j (by omega)]
          have c6 := kset k6 (by omega) c5
          clear ht2f ht2 k6 k5 c5 hr6 hr k4
          rcases hv3 with ⟨rfl, hv3⟩ | rfl
          all_goals
            conv => whnf
            refine ⟨_, _, cells_new _ _, store_agg rfl rfl rfl, ?_⟩
            conv => whnf
            generalize hS7 : (S6.new _).set _ _ = S7
            have k7 : Keep S6 S7 := by rw [← hS7]; exact ((Keep.refl S6).new _).set _ _ (Nat.le_refl _)
            have c7 : S7.cells S6.next = some [.int .i64 w, .int .i64 f] := by rw [← hS7, cells_set]
            have n7 : S7.next = S6.next + 1 := by rw [← hS7]; rfl
            clear hS7
            have d7 := kset k7 (by omega) c6
            have ht7 := ht6.mono (S1 := S7) (by omega) fun j h1 h2 => k7.mem j h2
            obtain ⟨va, S8, z1, z2, z3⟩ := ht7.frz (S7.next + 2)
            have z4 : ∀ j cs, S4.next ≤ j → S7.cells j = some cs → S8.cells j = some cs := fun j cs hj h => by unfold St.cells at h ⊢; rw [z3 j (hnot j hj)]; exact h
            have c8 := z4 _ _ (by omega) c7
            have d8 := z4 _ _ (by omega) d7
            refine ⟨_, hconv S7, ?_⟩
            conv => whnf
            refine brSEq (fun _ => ?_) (fun q => absurd rfl q)
            conv => whnf
            first
              | refine CallQ.mono (t14 _ (LL bs) (by omega) va .nils z2 (.inl ⟨rfl, by rw [hv3]; rfl⟩) S7 S8 (by rw [mapS, show S7.next + 4 = S7.next + 2 + 2 from rfl, z1]; rfl)) ?_
              | refine CallQ.mono (t14 _ (LL bs) (by omega) va (.lst ((LL bs).map Tk.v) .lost) z2 (.inr ⟨_, rfl⟩) S7 S8 (by rw [mapS, show S7.next + 4 = S7.next + 2 + 2 from rfl, z1]; rfl)) ?_
            rintro r S9 ⟨rfl, rfl⟩
            conv => whnf
            refine ⟨_, d8, ?_⟩
            conv => whnf
            refine ⟨_, c8, ?_⟩
            conv => whnf
            rw [eqFault2]
            have e : (w == w && (f == f && true)) = true := by simp
            rw [e]
            refine brB (fun _ => ?_) (fun q => absurd q (by decide))
            conv => whnf
            refine hal ?_
            conv => whnf
            rfl
end Go.Proofs.Ytfphpjinimfhfaa
