import Derived.Test.YtiknkngdfdmkbaaDoorVML3
namespace Go.Proofs.YtiknkngdfdmkbaaDoor
open Go.Proofs.YtiknkngdfdmkbaaDoor.VM
set_option maxRecDepth 100000
set_option linter.unusedVariables false

theorem t36 (bs : List UInt8) (k : Nat) (S : St) (hk : k < S.next) (hb0 : 0 < bs.length) (hb : bs.length ≤ 64) (hc : S.cells k = some (bs.map u8)) (A : Nat) (hA : A < S.next) (hcA : S.cells A = some [.nils, .hnd k 0 bs.length 1]) :
    CallQ Tryd.prog LC 36 [.hnd A 0 2 1] S fun r S1 => ∃ n, r = .hnd n 0 bs.length 1 ∧ S.next ≤ n ∧ n < S1.next ∧ S1.cells n = some (bs.map u8) ∧ Keep S S1 := by
  refine CallQ.of rfl (by kernel_rfl : Tryd.prog.funcs[36]? = some Tryd.f36) rfl (by decide) ?_
  conv => whnf
  refine CodeQ.loop (fun (i : Nat) => pat 36 [(0, .hnd A 0 2 1), (9, .hnd A 0 2 1), (10, .int .i64 2), (11, .int .i64 i), (3, .int .i64 (if i = 2 then bs.length else 0))])
    (fun m i S1 => i + m = 2 ∧ S1 = S) ?_ 2 0 _ _ ⟨rfl, rfl⟩ ⟨rfl, rfl, rfl, rfl, rfl, trivial⟩
  rintro m i S1 d ⟨e1, rfl⟩
  conv => whnf
  intro c hc
  cases c
  · conv => whnf
    simp at hc
    obtain rfl : i = 2 := by omega
    rw [if_pos rfl]
    refine CallQ.mono (t43 bs.length hb0 (by omega) S1) ?_
    rintro v S2 ⟨rfl, rfl⟩
    conv => whnf
    refine CodeQ.loop (fun (q : Nat × AV) => pat 36 [(25, .hnd A 0 2 1), (26, .int .i64 2), (27, .int .i64 q.1), (6, q.2)])
      (fun m q S3 => q.1 + m = 2 ∧ Keep S1 S3 ∧ ((q.1 ≤ 1 ∧ q.2 = .hnd S1.next 0 0 1 ∧ S3 = S1.new (.cells (rep [.int .u8 0] bs.length))) ∨ (q.1 = 2 ∧ ∃ n, q.2 = .hnd n 0 bs.length 1 ∧ S1.next ≤ n ∧ n < S3.next ∧ S3.cells n = some (bs.map u8)))) ?_ 2 (0, .hnd S1.next 0 0 1) _ _ ⟨rfl, (Keep.refl S1).new _, .inl ⟨by omega, rfl, rfl⟩⟩ ⟨rfl, rfl, rfl, rfl, trivial⟩
    rintro m ⟨i, v⟩ S3 d ⟨e1, hk3, hh⟩
    dsimp only at e1 hh ⊢
    conv => whnf
    intro c hc
    cases c
    · conv => whnf
      simp at hc
      rcases hh with ⟨h1, _⟩ | ⟨_, n, rfl, h2, h3, h4⟩
      · omega
      · exact ⟨n, rfl, h2, h3, h4, hk3⟩
    · simp at hc
      rcases hh with ⟨h1, rfl, rfl⟩ | ⟨h1, _⟩
      · obtain rfl | rfl : i = 0 ∨ i = 1 := by omega
        · conv => whnf
          refine ⟨by omega, by omega, ?_⟩
          conv => whnf
          refine ⟨_, cells_new_ne hcA (by omega), ?_⟩
          conv => whnf
          refine ⟨_, _, append_none (f := 36) (C := LC) el23 rfl, ?_⟩
          conv => whnf
          exact ⟨1, (1, .hnd S1.next 0 0 1), by omega, ⟨rfl, hk3, .inl ⟨Nat.le_refl _, rfl, rfl⟩⟩, ⟨rfl, rfl, rfl, rfl, trivial⟩⟩
        · conv => whnf
          refine ⟨by omega, by omega, ?_⟩
          conv => whnf
          refine ⟨_, cells_new_ne hcA (by omega), ?_⟩
          conv => whnf
          have hcn : (S1.new (.cells (rep [.int .u8 0] bs.length))).cells k = some (bs.map u8) := cells_new_ne (by assumption) (by omega)
          have hr : ∀ n, (rep [AV.int .u8 0] n).all AV.leafOk = true := by
            intro n
            induction n with
            | zero => rfl
            | succ n ih => simp [rep, ih, AV.leafOk]
          refine ⟨_, _, append_hnd (f := 36) (C := LC) (ds := []) el23 (cells_new _ _) (hr _) (elems_hnd hcn) (by intro h; rw [h] at hb0; simp at hb0) (by simp; omega), ?_⟩
          conv => whnf
          refine ⟨0, (2, .hnd (S1.next + 1) 0 bs.length 1), by omega, ⟨rfl, ?_, .inr ⟨rfl, S1.next + 1, rfl, by omega, ?_, ?_⟩⟩, ⟨by show AV.hnd (S1.next + 1) 0 (0 + bs.length) 1 = _; rw [Nat.zero_add], rfl, rfl, rfl, trivial⟩⟩
          · exact (((Keep.refl S1).new _).set _ _ (Nat.le_refl _)).new _
          · show S1.next + 1 < S1.next + 1 + 1; omega
          · exact cells_new _ _
      · omega
  · simp at hc
    obtain rfl | rfl : i = 0 ∨ i = 1 := by omega
    · conv => whnf
      refine ⟨by omega, by omega, ?_⟩
      conv => whnf
      refine ⟨_, hcA, ?_⟩
      conv => whnf
      intro c hc
      obtain rfl : c = false := by rw [hc]; rfl
      conv => whnf
      exact ⟨1, 1, by omega, ⟨by omega, rfl⟩, ⟨rfl, rfl, rfl, rfl, rfl, trivial⟩⟩
    · conv => whnf
      refine ⟨by omega, by omega, ?_⟩
      conv => whnf
      refine ⟨_, hcA, ?_⟩
      conv => whnf
      intro c hc
      have e : IntKind.i64.wrap ((if 1 = 2 then (bs.length : Int) else 0) + (bs.length : Int)) = bs.length := by rw [if_neg (by omega), wrap_i64 (by omega) (by omega)]; omega
      rw [e] at hc
      obtain rfl : c = false := by rw [hc]; simp
      rw [e]
      conv => whnf
      exact ⟨0, 2, by omega, ⟨by omega, rfl⟩, ⟨rfl, rfl, rfl, rfl, rfl, trivial⟩⟩
end Go.Proofs.YtiknkngdfdmkbaaDoor
