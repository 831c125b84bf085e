import Derived.Test.YtfphpjinimfhfaaVMJ4
namespace Go.Proofs.Ytfphpjinimfhfaa
open Go.Proofs.Ytfphpjinimfhfaa.VM Go.RowKit
set_option maxRecDepth 100000
set_option linter.unusedVariables false
set_option maxHeartbeats 1000000
theorem elB : Elem Try.prog 25 5 1 1 false (.int .u8 0) := ⟨by kernel_rfl, by kernel_rfl, by kernel_rfl, by kernel_rfl, by kernel_rfl, rfl, by decide⟩
/-- A builder that was written. -/
def BldU (b : Nat) (S : St) (n : Nat) (bs : List UInt8) : Prop := b ≤ n ∧ n < S.next ∧ ∃ v, S.mem n = some (.cells [.ptr n 0, v]) ∧ OwnB 5 b S v (bs.map u8)
abbrev BldJ := Bld 46 5
theorem BldU.bld {b : Nat} {S : St} {n : Nat} {bs : List UInt8} (h : BldU b S n bs) : BldJ b S n bs := ⟨h.1, h.2.1, .inr h.2.2⟩
/-- Nothing else turns, but what can be appended to. -/
def Fr (n : Nat) (S S1 : St) : Prop := ∀ j blk, j < S.next → j ≠ n → S.mem j = some blk → blk ≠ .tip 5 → S1.mem j = some blk
theorem Fr.trans {n : Nat} {S S1 S2 : St} (h : Fr n S S1) (hn : S.next ≤ S1.next) (k : Fr n S1 S2) : Fr n S S2 := fun j blk h1 h2 h3 h4 => k j blk (by omega) h2 (h j blk h1 h2 h3 h4) h4
theorem Fr.set {n : Nat} {S S1 : St} (h : Fr n S S1) (x : Option Blk) : Fr n S (S1.set n x) := fun j blk h1 h2 h3 h4 => mem_set_ne (h j blk h1 h2 h3 h4) h2
theorem Fr.refl (n : Nat) (S : St) : Fr n S S := fun _ _ _ _ h _ => h
theorem copy_check {b : Nat} {S : St} {n : Nat} {bs : List UInt8} (h : BldJ b S n bs) : ∃ S1, copyCheckG 46 [.ptr n 0] S = some (.tuple [], S1) ∧ BldU b S1 n bs ∧ Low b S S1 ∧ S1.next = S.next ∧ Fr n S S1 := by
  obtain ⟨h1, h2, h3⟩ := h
  rcases h3 with ⟨h3, rfl⟩ | ⟨v, h3, h4⟩
  · refine ⟨S.set n (some (.cells [.ptr n 0, .nils])), ?_, ⟨h1, h2, _, mem_set _ _ _, OwnB.nil _ _ _⟩, (Low.refl b S).set _ _ h1, rfl, (Fr.refl n S).set _⟩
    simp only [copyCheckG, h3, if_true]
  · refine ⟨S, ?_, ⟨h1, h2, v, h3, h4⟩, Low.refl _ _, rfl, Fr.refl _ _⟩
    simp only [copyCheckG, h3, if_true]
theorem BldU.put {b : Nat} {S S1 : St} {n : Nat} {bs : List UInt8} {r : AV} (h1 : b ≤ n) (h2 : n < S.next) (hb : b ≤ S.next) (ho : OwnB 5 b S1 r (bs.map u8)) (hl : Low b S S1) (hm : ∃ v, S1.mem n = some (.cells [.ptr n 0, v])) : BldU b (S1.set n (some (.cells [.ptr n 0, r]))) n bs := by
  refine ⟨h1, Nat.lt_of_lt_of_le h2 hl.1, r, mem_set _ _ _, ho.mono (Nat.le_refl _) fun m _ _ hmm => ?_⟩
  refine mem_set_ne rfl ?_
  rintro rfl
  obtain ⟨v, hv⟩ := hm
  rw [hv] at hmm; cases hmm

theorem t18 (h : Bool) (b : Nat) (S : St) (n : Nat) (bs : List UInt8) (c : UInt8) (hB : BldJ b S n bs) (hb : b ≤ S.next) (hl : bs.length + 1 ≤ 2 ^ 47) :
    CallQ Try.prog (JC h) 18 [.ptr n 0, u8 c] S fun r S1 => r = .nilIface ∧ BldU b S1 n (bs ++ [c]) ∧ Low b S S1 ∧ Fr n S S1 := by
  obtain ⟨S1, e1, e2, e3, e4, e5⟩ := copy_check hB
  refine CallQ.of rfl (by kernel_rfl : Try.prog.funcs[18]? = some Try.f18) rfl (by decide) ?_
  conv => whnf
  refine CallQ.intr (g := copyCheckG 46) rfl e1 ?_
  obtain ⟨q1, q2, v, q3, q4⟩ := e2
  conv => whnf
  refine ⟨_, cells_of_mem q3, ?_⟩
  conv => whnf
  obtain ⟨r, S2, h1, h2, h3, h4, _⟩ := OwnB.append (C := JC h) (f := 18) elB rfl q4 (by omega) (show elemsA S1 false 1 (.lst [u8 c] .full) = some ([c].map u8) from rfl) (shed_u8 _) (wellA_u8 _) (wellA_u8 _) (by simp; omega)
  have hr : r = .nils ∨ ∃ m : Nat × List AV, r = .lst m.2 (.tag m.1) := by
    rcases h2 with ⟨rfl, _⟩ | ⟨m, _, _, rfl, _⟩
    · exact .inl rfl
    · exact .inr ⟨(m, _), rfl⟩
  refine ⟨r, S2, h1, ?_⟩
  conv => whnf
  have m2 := h4 n _ q2 q3 (by simp)
  rw [← List.map_append] at h2
  have fin := BldU.put q1 q2 (by omega) h2 h3 ⟨v, m2⟩
  have fin2 := (e3.trans h3).set n (some (.cells [.ptr n 0, r])) q1
  have fin3 : Fr n S (S2.set n (some (.cells [.ptr n 0, r]))) := (e5.trans (by omega) (fun j blk g1 _ g3 g4 => h4 j blk g1 g3 g4)).set _
  clear h1 h2
  rcases hr with rfl | ⟨m, rfl⟩
  all_goals
    refine ⟨_, _, cells_of_mem m2, if_pos ⟨rfl, rfl, Nat.le_of_ble_eq_true rfl⟩, ?_⟩
    conv => whnf
    exact ⟨rfl, fin, fin2, fin3⟩

theorem t20 (h : Bool) (b : Nat) (S : St) (n : Nat) (bs s : List UInt8) (hB : BldJ b S n bs) (hb : b ≤ S.next) (hl : bs.length + s.length ≤ 2 ^ 47) :
    CallQ Try.prog (JC h) 20 [.ptr n 0, .str s] S fun r S1 => r = .tuple [.int .i64 s.length, .nilIface] ∧ BldU b S1 n (bs ++ s) ∧ Low b S S1 ∧ Fr n S S1 := by
  obtain ⟨S1, e1, e2, e3, e4, e5⟩ := copy_check hB
  refine CallQ.of rfl (by kernel_rfl : Try.prog.funcs[20]? = some Try.f20) rfl (by decide) ?_
  conv => whnf
  refine CallQ.intr (g := copyCheckG 46) rfl e1 ?_
  obtain ⟨q1, q2, v, q3, q4⟩ := e2
  conv => whnf
  refine ⟨_, cells_of_mem q3, ?_⟩
  conv => whnf
  have hE : elemsA S1 false 1 (.str s) = some (s.map u8) := rfl
  obtain ⟨r, S2, h1, h2, h3, h4, _⟩ := OwnB.append (C := JC h) (f := 20) elB rfl q4 (by omega) hE (shed_u8 _) (wellA_u8 _) (wellA_u8 _) (by simp; omega)
  have hr : r = .nils ∨ ∃ m : Nat × List AV, r = .lst m.2 (.tag m.1) := by
    rcases h2 with ⟨rfl, _⟩ | ⟨m, _, _, rfl, _⟩
    · exact .inl rfl
    · exact .inr ⟨(m, _), rfl⟩
  refine ⟨r, S2, h1, ?_⟩
  conv => whnf
  have m2 := h4 n _ q2 q3 (by simp)
  rw [← List.map_append] at h2
  have fin := BldU.put q1 q2 (by omega) h2 h3 ⟨v, m2⟩
  have fin2 := (e3.trans h3).set n (some (.cells [.ptr n 0, r])) q1
  have fin3 : Fr n S (S2.set n (some (.cells [.ptr n 0, r]))) := (e5.trans (by omega) (fun j blk g1 _ g3 g4 => h4 j blk g1 g3 g4)).set _
  clear h1 h2
  rcases hr with rfl | ⟨m, rfl⟩
  all_goals
    refine ⟨_, _, cells_of_mem m2, if_pos ⟨rfl, rfl, Nat.le_of_ble_eq_true rfl⟩, ?_⟩
    conv => whnf
    exact ⟨rfl, fin, fin2, fin3⟩

theorem bld_string {b : Nat} {S : St} {n : Nat} {bs : List UInt8} (hB : BldJ b S n bs) (hl : bs.length ≤ 2 ^ 47) : bldStringG 5 [.ptr n 0] S = some (.str bs, S) := by
  obtain ⟨h1, h2, h3⟩ := hB
  rcases h3 with ⟨h3, rfl⟩ | ⟨v, h3, h4⟩
  · have : S.cells n = some [.nul, .nils] := by unfold St.cells; rw [h3]
    simp only [bldStringG, this]
  · rcases h4 with ⟨rfl, h4⟩ | ⟨m, _, _, rfl, h5⟩
    · obtain rfl : bs = [] := by simpa using h4
      simp only [bldStringG, cells_of_mem h3]
    · simp only [bldStringG, cells_of_mem h3, h5, byteList_u8]
      simp only [true_and]
      rw [if_pos (by omega)]
end Go.Proofs.Ytfphpjinimfhfaa
