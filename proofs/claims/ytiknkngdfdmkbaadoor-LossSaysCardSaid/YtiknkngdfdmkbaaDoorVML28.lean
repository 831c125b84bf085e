import Derived.Test.YtiknkngdfdmkbaaDoorVML27
import Derived.Test.YtiknkngdfdmkbaaDoorShelf
namespace Go.Proofs.YtiknkngdfdmkbaaDoor
open Go.Proofs.YtiknkngdfdmkbaaDoor.VM Go.RowKit
set_option maxRecDepth 100000
set_option linter.unusedVariables false

theorem sr_grow {w0 w : World} {G : Gh} {R : Nat → Option Blk} (h : SR w0 G R w) (k : Nat) (os : Array Obj) : SR w0 G R (Go.Sort.grow (w.drewN k) os) := by
  have hb : ∀ b, b < w.heap.size → (Go.Sort.grow (w.drewN k) os).heap[b]? = w.heap[b]? := fun b hb => by
    show (w.heap ++ os)[b]? = _
    rw [Array.getElem?_append_left hb]
  have hsz : w.heap.size ≤ (Go.Sort.grow (w.drewN k) os).heap.size := by
    show _ ≤ (w.heap ++ os).size
    simp
  refine ⟨h.below.trans ⟨rfl, rfl, rfl, hsz, fun i hi => hb i (by have := h.below.size; omega)⟩, fun b off v hv => ?_, fun b m hm => ?_, fun n blk hn => ?_, h.apart, h.laid⟩
  · rw [← h.imm b off v hv]
    exact World.cell?_of_block (w := w) (hb b (h.imm_lt hv))
  · obtain ⟨ccs, ty, fr, h1, h2⟩ := h.size b m hm
    exact ⟨ccs, ty, fr, (hb b (h.sz_lt hm)).trans h1, h2⟩
  · obtain ⟨b, o, h1, h2, h3⟩ := h.res n blk hn
    exact ⟨b, o, h1, h2, BR.of_block (hb b h3.block) h3⟩

theorem intrOK : IntrOK Tryd.prog LC := by
  intro f g args S v S' hi hg
  have hf : f = 24 := by
    by_cases h : f = 24
    · exact h
    · simp [LC, h] at hi
  subst hf
  have : g = itoaG := by simpa [LC] using hi.symm
  subst this
  unfold itoaG at hg
  split at hg
  case h_2 => cases hg
  rename_i n
  split at hg
  case isFalse => cases hg
  rename_i hn
  cases hg
  refine ⟨?_, Nat.le_refl _⟩
  intro w0 G F w cargs hgl hv hs hwf hFO hFN
  have hc : cargs = #[.int .i64 n] := by
    obtain ⟨l⟩ := cargs
    cases hv with
    | cons h t =>
      cases h
      cases t
      rfl
  subst hc
  have htab : Lib.TabIs Tryd.prog w "internal/strconv.uint64pow10" .u64 Lib.pow10Tab := by
    have h0 : Lib.TabIs Tryd.prog w0 "internal/strconv.uint64pow10" .u64 Lib.pow10Tab := hs.laid
    unfold Lib.TabIs World.var? at h0 ⊢
    obtain ⟨gg, h1, h2⟩ := Option.bind_eq_some_iff.1 h0
    refine Option.bind_eq_some_iff.2 ⟨gg, h1, ?_⟩
    have hlt : gg < w0.heap.size := by
      rcases Nat.lt_or_ge gg w0.heap.size with h | h
      · exact h
      · rw [Array.getElem?_eq_none h] at h2; cases h2
    rw [hs.below.block gg hlt]
    exact h2
  refine .inl ⟨enter_run Tryd.func24 rfl (by decide), (Tryd.strconv_Itoa n hn.1 hn.2 w htab).mono fun e w' ⟨he, k, os, hw⟩ => ?_⟩
  subst hw
  exact ⟨G, .refl _ _ _, sr_grow hs k os, .refl hwf, _, he, .str _⟩

theorem t4 (l : Ls) (hl : l.Ok) (hp : ∀ p ∈ l.ps, -9223372036854775808 ≤ p ∧ p ≤ 9223372036854775807) (S : St) :
    CallQ Tryd.prog LC 4 [.agg [l.s, .int .i64 l.kind, .int .u64 l.n]] S fun r S1 => r = .bool true := by
  refine CallQ.of rfl (by kernel_rfl : Tryd.prog.funcs[4]? = some Tryd.f4) rfl (by decide) ?_
  conv => whnf
  refine ⟨[0, 1, 2, 3, 4, 5, 7, 6, 8, 9, 10, 11, 12, 13, 14], [(6, [7])], by kernel_rfl, by kernel_rfl, by kernel_rfl, ?_⟩
  obtain ⟨s, ps, kd, n⟩ := l
  have hpa := hl.path
  dsimp only at hpa hp
  have main : ∀ s, Elems s (ps.map I64) → ps.length ≤ 2000 → ∀ S, CallQ Tryd.prog LC 12 [.agg [s, .int .i64 kd, .int .u64 n]] S fun r S1 => Keep S S1 ∧ r = .str (nameOf kd ++ [32, 47] ++ jn Lib.itoa 0 ps) :=
    fun s hs hb S => t12 Lib.itoa s ps kd n hs hb (fun p h => itoa_len (hp p h)) (fun p h S => t24 p (hp p h) S) S
  rcases hpa with ⟨rfl, hps⟩ | ⟨t, rfl⟩
  · obtain rfl : ps = [] := by simpa using hps
    conv => whnf
    intro c hc
    simp at hc
    subst hc
    conv => whnf
    refine CallQ.mono (main .nils (.inl ⟨rfl, rfl⟩) (by simp) S) ?_
    rintro r S1 ⟨h1, rfl⟩
    conv => whnf
    refine ⟨⟨_, rfl, .inr ⟨_, _, _, rfl, rfl, rfl, rfl⟩⟩, ?_⟩
    conv => whnf
    refine CallQ.mono (t13 .nils [] kd n (.inl ⟨rfl, rfl⟩) (by simp) hp S1) ?_
    rintro r S2 ⟨h2, rfl⟩
    conv => whnf
    intro c hc
    simp at hc
    subst hc
    conv => whnf
    refine CallQ.mono (t11 S2) ?_
    rintro r S3 ⟨_, rfl⟩
    conv => whnf
    rfl
  · conv => whnf
    intro c hc
    cases c
    · have hb : ps.length ≤ 2000 := by simp at hc; omega
      conv => whnf
      refine CallQ.mono (main _ (.inr ⟨t, rfl⟩) hb S) ?_
      rintro r S1 ⟨h1, rfl⟩
      conv => whnf
      refine ⟨⟨_, rfl, .inr ⟨_, _, _, rfl, rfl, rfl, rfl⟩⟩, ?_⟩
      conv => whnf
      refine CallQ.mono (t13 _ ps kd n (.inr ⟨t, rfl⟩) hb hp S1) ?_
      rintro r S2 ⟨h2, rfl⟩
      conv => whnf
      intro c hc
      simp at hc
      subst hc
      conv => whnf
      refine CallQ.mono (t11 S2) ?_
      rintro r S3 ⟨_, rfl⟩
      conv => whnf
      rfl
    · conv => whnf
      rfl
end Go.Proofs.YtiknkngdfdmkbaaDoor
