import Derived.Test.YtiknkngdfdmkbaaDoorVML21
namespace Go.Proofs.YtiknkngdfdmkbaaDoor
open Go.Proofs.YtiknkngdfdmkbaaDoor.VM
set_option maxRecDepth 100000
set_option linter.unusedVariables false

theorem t6 (bs : List UInt8) (s : AV) (hs : Elems s (bs.map u8)) (hb : bs.length ≤ 2 ^ 47) (S : St) :
    CallQ Tryd.prog LC 6 [s] S fun r S1 => r = .bool true := by
  refine CallQ.of rfl (by kernel_rfl : Tryd.prog.funcs[6]? = some Tryd.f6) rfl (by decide) ?_
  conv => whnf
  refine CallQ.mono (t14 bs s hs hb S) ?_
  rintro r S1 ⟨hr, h1⟩
  unfold PRes at hr
  cases hp : parse bs with
  | error f =>
    obtain ⟨w, k⟩ := f
    have hw := parse_good hp
    rw [hp] at hr
    subst hr
    conv => whnf
    refine ⟨_, _, cells_new _ _, store_agg rfl rfl rfl, ?_⟩
    conv => whnf
    refine ⟨_, cells_set _ _ _, ?_⟩
    conv => whnf
    rw [eq39', decide_eq_false (by show ¬ ((w : Int) = 0 ∧ _); omega)]
    intro b hb
    subst hb
    conv => whnf
    intro c hc
    simp at hc
    subst hc
    conv => whnf
    refine CallQ.mono (t11 _) ?_
    rintro r S4 ⟨_, rfl⟩
    conv => whnf
    rfl
  | ok xs =>
    rw [hp] at hr
    obtain ⟨l, ls, rfl, g1, g2, g3⟩ := hr
    obtain ⟨p1, p2, p3⟩ := parse_inv hp
    subst g2
    rw [List.length_map] at p2
    have hmay : ∀ x ∈ ls, x.may = true := fun x hx => may_of (g3 x hx).2 (p3 _ (List.mem_map.2 ⟨x, hx, rfl⟩))
    have he := bErr_of p2 hmay
    have hby : bBytes ls = bs := by rw [bBytes, if_pos he, build_raw, ← p1]
    conv => whnf
    refine ⟨_, _, cells_new _ _, store_agg rfl rfl rfl, ?_⟩
    conv => whnf
    refine ⟨_, cells_set _ _ _, ?_⟩
    conv => whnf
    rw [eq39', decide_eq_true (⟨rfl, rfl⟩ : (0 : Int) = 0 ∧ (0 : Int) = 0)]
    intro b hb
    subst hb
    conv => whnf
    refine CallQ.mono (t8 ls (fun x hx => (g3 x hx).1) l g1 _) ?_
    rintro r S2 ⟨h2, v, rfl, h3⟩
    rw [he]
    rw [hby] at h3
    conv => whnf
    intro c hc
    simp at hc
    subst hc
    conv => whnf
    refine CallQ.mono (t10 bs bs s v hs h3 S2) ?_
    rintro r S3 ⟨rfl, rfl⟩
    rw [show (bs == bs) = true by simp]
    conv => whnf
    refine CallQ.mono (t11 _) ?_
    rintro r S4 ⟨_, rfl⟩
    conv => whnf
    rfl

theorem eq39b (a b c d : Int) : eqF Tryd.prog 39 (.agg [.int .i64 a, .int .i64 b]) (.agg [.int .i64 c, .int .i64 d]) = some (a == c && (b == d && true)) := by kernel_rfl
theorem take_pre {l : List UInt8} {i : Nat} (h : i < l.length) : Pre (l.take i) l := ⟨l.drop i, by intro h0; have := congrArg List.length h0; simp at this; omega, List.take_append_drop _ _⟩

theorem t7 (ls : List Ls) (hls : ∀ l ∈ ls, l.Ok) (s : AV) (hs : Elems s (ls.map Ls.v)) (cut : Int) (S : St) :
    CallQ Tryd.prog LC 7 [s, .int .i64 cut] S fun r S1 => r = .bool true := by
  refine CallQ.of rfl (by kernel_rfl : Tryd.prog.funcs[7]? = some Tryd.f7) rfl (by decide) ?_
  conv => whnf
  refine CallQ.mono (t8 ls hls s hs S) ?_
  rintro r S1 ⟨h1, v, rfl, h2⟩
  conv => whnf
  intro c hc
  by_cases he : bErr ls = 0
  · have : c = false := by rw [hc, he]; rfl
    subst this
    obtain ⟨e1, e2⟩ := bErr_zero he
    have hbb : bBytes ls = buildR (ls.map Ls.raw) := by rw [bBytes, if_pos he, build_raw]
    have hlen := build_len hls e1 e2
    rw [build_raw, ← hbb] at hlen
    rcases h2 with ⟨rfl, h⟩ | ⟨t, rfl⟩
    · have h : bBytes ls = [] := by simpa using h
      rw [h] at hlen; simp at hlen
    conv => whnf
    intro c hc
    have : c = false := by
      rw [hc]
      simp
      intro h; rw [h] at hlen; simp at hlen
    subst this
    obtain ⟨B, hB⟩ : ∃ B, B = bBytes ls := ⟨_, rfl⟩
    rw [← hB] at hlen hbb ⊢
    have hLm : ((B.map u8).length : Int) = (B.length : Int) := by rw [List.length_map]
    conv => whnf
    rw [hLm]
    refine ⟨by omega, ?_⟩
    have m1 := Int.tmod_lt_of_pos cut (b := B.length) (by omega)
    have m2 := Int.lt_tmod_of_pos cut (b := B.length) (by omega)
    have m3 : 0 ≤ IntKind.i64.wrap (cut.tmod B.length + B.length) ∧ IntKind.i64.wrap (cut.tmod B.length + B.length) = cut.tmod B.length + B.length := by
      rw [wrap_i64 (by omega) (by omega)]
      exact ⟨by omega, rfl⟩
    conv => whnf
    rw [hLm]
    refine ⟨by omega, ?_⟩
    obtain ⟨i, hi, hi2⟩ : ∃ i : Nat, (IntKind.i64.wrap (cut.tmod B.length + B.length)).tmod B.length = (i : Int) ∧ i < B.length := by
      rw [m3.2]
      have q1 := Int.tmod_nonneg (B.length : Int) (a := cut.tmod B.length + B.length) (by omega)
      have q2 := Int.tmod_lt_of_pos (cut.tmod B.length + B.length) (b := B.length) (by omega)
      exact ⟨((cut.tmod B.length + B.length).tmod B.length).toNat, by omega, by omega⟩
    rw [hi]
    obtain ⟨tp, hsl⟩ := slice_hi (P := Tryd.prog) (t := 23) (e := 5) (s := 1) (by kernel_rfl) (by kernel_rfl) (B.map u8) t (headOk_u8 B) i (by simp; omega) .i64
    refine ⟨_, hsl, ?_⟩
    have hp : parse (B.take i) = .error (3, 0) := by
      refine parse_pre (xs := ls.map Ls.raw) (fun x hx => ?_) (by simpa using e1) ?_
      · obtain ⟨l, hl, rfl⟩ := List.mem_map.1 hx
        exact raw_ok (hls l hl) (e2 l hl)
      · rw [← hbb]; exact take_pre hi2
    conv => whnf
    refine CallQ.mono (t14 (B.take i) _ (.inr ⟨tp, by rw [List.map_take]⟩) (by simp; omega) S1) ?_
    rintro r S2 ⟨hr, h3⟩
    unfold PRes at hr
    rw [hp] at hr
    have hti : (B.take i).length - 0 = i := by simp; omega
    have hr : r = .tuple [.nils, .agg [.int .i64 ((3 : Nat) : Int), .int .i64 ((B.take i).length - 0 : Nat)]] := hr
    rw [hti] at hr
    subst hr
    conv => whnf
    refine ⟨_, _, cells_new _ _, store_agg rfl rfl rfl, ?_⟩
    conv => whnf
    refine ⟨_, cells_set _ _ _, ?_⟩
    conv => whnf
    rw [eq39b]
    intro b hb
    have : b = true := by rw [hb]; simp
    subst this
    conv => whnf
    refine CallQ.mono (t11 _) ?_
    rintro r S4 ⟨_, rfl⟩
    conv => whnf
    rfl
  · have : c = true := by
      rw [hc]
      simp [he]
    subst this
    conv => whnf
    intro c hc
    have : c = true := by
      rw [hc]
      simp [he]
    subst this
    conv => whnf
    refine CallQ.mono (t11 _) ?_
    rintro r S4 ⟨_, rfl⟩
    conv => whnf
    rfl
end Go.Proofs.YtiknkngdfdmkbaaDoor
