import Derived.Test.YtmkmakokgfigoaaDoorVMP8
namespace Go.Proofs.YtmkmakokgfigoaaDoor
open Go.Proofs.YtmkmakokgfigoaaDoor.VM Go.RowKit
set_option maxRecDepth 100000
set_option linter.unusedVariables false
set_option linter.unusedSimpArgs false
set_option maxHeartbeats 4000000
/-! left and spoil, over written trees. -/
theorem pcnt_pos : ∀ x : Pl, 1 ≤ pcnt x
  | .mk .. => by simp only [pcnt]; omega
theorem pcnts_take : ∀ (xs : List Pl) (i : Nat) (h : i < xs.length), pcnts (xs.take (i + 1)) = pcnts (xs.take i) + pcnt xs[i]
  | x :: xs, 0, h => by simp [pcnts]
  | x :: xs, i + 1, h => by
    have := pcnts_take xs i (by simpa using h)
    simp only [List.take_succ_cons, pcnts, List.getElem_cons_succ]
    omega
theorem pcnts_le (xs : List Pl) (i : Nat) : pcnts (xs.take i) ≤ pcnts xs := by
  induction xs generalizing i with
  | nil => simp [pcnts]
  | cons x xs ih =>
    cases i with
    | zero => simp [pcnts]
    | succ i => have := ih i; simp only [List.take_succ_cons, pcnts]; omega
theorem pcnt_mem {xs : List Pl} {x : Pl} (h : x ∈ xs) : pcnt x ≤ pcnts xs := by
  induction xs with
  | nil => cases h
  | cons y xs ih =>
    rcases List.mem_cons.1 h with rfl | h
    · simp only [pcnts]; omega
    · have := ih h; simp only [pcnts]; omega
/-- The i-th node's cells, in the array. -/
theorem hc_load {S : St} {xs : List Pl} {cs : List AV} {F : List Nat} {i : Nat} (hi : i < xs.length) (h : HC S xs cs F) : ∃ c F0, (if 0 + i * 9 + 9 ≤ cs.length then some (AV.agg ((cs.drop (0 + i * 9)).take 9)) else none) = some (.agg c) ∧ HN S xs[i] c F0 ∧ ∀ j ∈ F0, j ∈ F := by
  obtain ⟨c1, c, c2, F1, F0, F2, rfl, hl, rfl, h1, _⟩ := hc_at hi h
  have h9 := (hn_cells h1).1
  refine ⟨c, F0, ?_, h1, fun j hj => by simp [hj]⟩
  rw [if_pos (by simp; omega), Nat.zero_add, ← hl, List.drop_left, List.take_append_of_le_length (by omega), List.take_of_length_le (by omega)]
theorem nine {cs : List AV} (h : cs.length = 9) : ∃ c0 c1 c2 c3 c4 c5 c6 c7 c8, cs = [c0, c1, c2, c3, c4, c5, c6, c7, c8] := by
  match cs, h with
  | [x0, x1, x2, x3, x4, x5, x6, x7, x8], _ => exact ⟨x0, x1, x2, x3, x4, x5, x6, x7, x8, rfl⟩
theorem hl_cases {S : St} {xs : List Pl} {v : AV} {F : List Nat} (h : HL (fun cs G => HC S xs cs G) xs.length S v F) : (v = .nils ∧ xs = []) ∨ ∃ a cs G, v = .hnd a 0 xs.length 9 ∧ S.mem a = some (.cells cs) ∧ HC S xs cs G ∧ a < S.next ∧ (∀ j ∈ G, j ∈ F) ∧ a ∈ F ∧ xs.length ≤ 2 ^ 47 := by
  rcases h with ⟨rfl, h0, _⟩ | ⟨a, cs, G, rfl, h1, h2, rfl, h3, h4⟩
  · exact .inl ⟨rfl, List.length_eq_zero_iff.1 h0⟩
  · exact .inr ⟨a, cs, G, rfl, h3, h4, h1, fun j hj => by simp [hj], by simp, h2⟩
theorem t28h : ∀ (N : Nat) (x : Pl) (many : Nat), pcnt x ≤ N → many ≤ 2 ^ 62 → ∀ (S : St) (cs : List AV) (F : List Nat), HN S x cs F → CallQ Tryd.prog TC 28 [.agg cs, .int .i64 many] S fun r S1 => r = .int .i64 (lf many (pcnt x)) ∧ Keep S S1
  | 0, x, _, h, _, _, _, _, _ => by have := pcnt_pos x; omega
  | N + 1, x, many, hN, hm, S, cs, F, h => by
    have ihx : ∀ xs : List Pl, pcnts xs ≤ N → ∀ i (h : i < xs.length) (m : Nat), m ≤ 2 ^ 62 → ∀ S cs F, HN S xs[i] cs F → CallQ Tryd.prog TC 28 [.agg cs, .int .i64 m] S fun r S1 => r = .int .i64 (lf m (pcnt xs[i])) ∧ Keep S S1 :=
      fun xs h1 i h m hm S cs F hF => t28h N xs[i] m (Nat.le_trans (pcnt_mem (List.getElem_mem h)) h1) hm S cs F hF
    obtain ⟨kind, n, neg, dg, ex, tx, bs, keys, kids⟩ := x
    simp only [HN] at h
    obtain ⟨vb, vk, vd, Fb, Fk, Fd, rfl, hb, _, rfl, hk, hd⟩ := h
    simp only [pcnt] at hN ⊢
    have ihk := ihx keys (by omega)
    have ihd := ihx kids (by omega)
    have hkc := hl_cases hk
    have hdc := hl_cases hd
    have ltk := hk.lt
    have ltd := hd.lt
    clear hk hd ihx
    have e0 : IntKind.i64.wrap ((many : Int) - 1) = lf many (1 + pcnts (keys.take 0)) := by
      rw [wrap_i64 (by omega) (by omega)]
      unfold lf
      simp only [List.take_zero, pcnts]
      split <;> omega
    obtain ⟨B, hB⟩ : ∃ B, B = vb := ⟨_, rfl⟩
    rcases hkc with ⟨rfl, rfl⟩ | ⟨ak, ck, Gk, rfl, hmk, hck, hak, hGk, _, hlk⟩ <;> rcases hdc with ⟨rfl, rfl⟩ | ⟨ad, cd, Gd, rfl, hmd, hcd, had, hGd, _, hld⟩
    · refine CallQ.of rfl (by kernel_rfl : Tryd.prog.funcs[28]? = some Tryd.f28) rfl (by decide) ?_
      conv => whnf
      refine CodeQ.loop (fun (i : Nat) => pat 46 [(1, .int .i64 (lf many (1 + pcnts (List.take i ([] : List Pl))))), (2, .cptr [.int .i64 kind, .int .u64 n, .bool neg, .str dg, .int .i64 ex, .str tx, vb, .nils, .nils] 0), (5, .int .i64 i)]) (fun m i S1 => Keep S S1 ∧ i + m = List.length ([] : List Pl)) ?_ (List.length ([] : List Pl)) 0 _ _ ⟨.refl _, by omega⟩ ⟨by rw [← e0], rfl, rfl, trivial⟩
      rintro m i S1 d ⟨k1, hi1⟩
      conv => whnf

      refine br (fun h => by exfalso; omega) (fun _ => ?_)
      conv => whnf
      have e1 : lf many (1 + pcnts (List.take i ([] : List Pl))) = lf many (1 + pcnts ([] : List Pl)) := by simp
      all_goals
        refine CodeQ.loop (fun (i : Nat) => pat 46 [(1, .int .i64 (lf many (1 + pcnts ([] : List Pl) + pcnts (List.take i ([] : List Pl))))), (2, .cptr [.int .i64 kind, .int .u64 n, .bool neg, .str dg, .int .i64 ex, .str tx, vb, .nils, .nils] 0), (6, .int .i64 i)]) (fun m i S1 => Keep S S1 ∧ i + m = List.length ([] : List Pl)) ?_ (List.length ([] : List Pl)) 0 _ _ ⟨k1, by omega⟩ ⟨by rw [e1]; simp [pcnts], rfl, rfl, trivial⟩
        rintro m i S3 d ⟨k3, hi3⟩
        conv => whnf

        refine br (fun h => by exfalso; omega) (fun _ => ?_)
        conv => whnf
        have e3 : lf many (1 + pcnts ([] : List Pl) + pcnts (List.take i ([] : List Pl))) = lf many (1 + pcnts ([] : List Pl) + pcnts ([] : List Pl)) := by simp

        all_goals
          conv => whnf
          exact ⟨by rw [e3]; rfl, k3⟩
    · refine CallQ.of rfl (by kernel_rfl : Tryd.prog.funcs[28]? = some Tryd.f28) rfl (by decide) ?_
      conv => whnf
      refine CodeQ.loop (fun (i : Nat) => pat 46 [(1, .int .i64 (lf many (1 + pcnts (List.take i ([] : List Pl))))), (2, .cptr [.int .i64 kind, .int .u64 n, .bool neg, .str dg, .int .i64 ex, .str tx, vb, .nils, .hnd ad 0 kids.length 9] 0), (5, .int .i64 i)]) (fun m i S1 => Keep S S1 ∧ i + m = List.length ([] : List Pl)) ?_ (List.length ([] : List Pl)) 0 _ _ ⟨.refl _, by omega⟩ ⟨by rw [← e0], rfl, rfl, trivial⟩
      rintro m i S1 d ⟨k1, hi1⟩
      conv => whnf

      refine br (fun h => by exfalso; omega) (fun _ => ?_)
      conv => whnf
      have e1 : lf many (1 + pcnts (List.take i ([] : List Pl))) = lf many (1 + pcnts ([] : List Pl)) := by simp
      all_goals
        refine CodeQ.loop (fun (i : Nat) => pat 46 [(1, .int .i64 (lf many (1 + pcnts ([] : List Pl) + pcnts (List.take i kids)))), (2, .cptr [.int .i64 kind, .int .u64 n, .bool neg, .str dg, .int .i64 ex, .str tx, vb, .nils, .hnd ad 0 kids.length 9] 0), (6, .int .i64 i)]) (fun m i S1 => Keep S S1 ∧ i + m = List.length kids) ?_ (List.length kids) 0 _ _ ⟨k1, by omega⟩ ⟨by rw [e1]; simp [pcnts], rfl, rfl, trivial⟩
        rintro m i S3 d ⟨k3, hi3⟩
        conv => whnf

        refine br (fun h => ?_) (fun h => ?_)
        rotate_left
        focus
          conv => whnf
          have e3 : lf many (1 + pcnts ([] : List Pl) + pcnts (List.take i kids)) = lf many (1 + pcnts ([] : List Pl) + pcnts kids) := by rw [List.take_of_length_le (by omega)]
        rotate_left
        focus
          conv => whnf
          refine br (fun h2 => ?_) (fun h2 => ?_)
          rotate_left
          focus
            conv => whnf
            have e3 : lf many (1 + pcnts ([] : List Pl) + pcnts (List.take i kids)) = lf many (1 + pcnts ([] : List Pl) + pcnts kids) := by
              have h := pcnts_le kids i
              exact lf_neg h2 (by omega)
          rotate_left
          focus
            have hlt : i < kids.length := by omega
            have hF1 := HC.frame k3.next kids hcd (fun j hj => k3.mem j (ltd j (hGd j hj)))
            obtain ⟨c, F0, hld, hcn, _⟩ := hc_load hlt hF1
            obtain ⟨k, q1, q2, q3⟩ := lf_add (c' := pcnt kids[i]) (show (0 : Int) ≤ lf many (1 + pcnts ([] : List Pl) + pcnts (List.take i kids)) from h2)
            rw [Nat.add_assoc, ← pcnts_take kids i hlt] at q3
            have hcall := ihd i hlt k (by omega) S3 c F0 hcn
            have hma := (k3.mem ad (by assumption)).trans hmd
            rw [q1]
            obtain ⟨c0, c1, c2, c3, c4, c5, c6, c7, c8, rfl⟩ := nine (hn_cells hcn).1
            conv => whnf
            refine ⟨by omega, by omega, ?_⟩
            conv => whnf
            refine ⟨_, cells_of_mem hma, partF_true hld ?_⟩
            conv => whnf
            refine CallQ.mono hcall ?_
            rintro r S9 ⟨rfl, kk⟩
            conv => whnf
            refine ⟨m - 1, i + 1, by omega, ⟨k3.trans kk, by omega⟩, ⟨by rw [q3], rfl, ?_, trivial⟩⟩
            rw [wrap_i64 (by omega) (by omega)]; try rfl

        all_goals
          conv => whnf
          exact ⟨by rw [e3]; rfl, k3⟩
    · refine CallQ.of rfl (by kernel_rfl : Tryd.prog.funcs[28]? = some Tryd.f28) rfl (by decide) ?_
      conv => whnf
      refine CodeQ.loop (fun (i : Nat) => pat 46 [(1, .int .i64 (lf many (1 + pcnts (List.take i keys)))), (2, .cptr [.int .i64 kind, .int .u64 n, .bool neg, .str dg, .int .i64 ex, .str tx, vb, .hnd ak 0 keys.length 9, .nils] 0), (5, .int .i64 i)]) (fun m i S1 => Keep S S1 ∧ i + m = List.length keys) ?_ (List.length keys) 0 _ _ ⟨.refl _, by omega⟩ ⟨by rw [← e0], rfl, rfl, trivial⟩
      rintro m i S1 d ⟨k1, hi1⟩
      conv => whnf

      refine br (fun h => ?on_1) (fun h => ?off_1)
      case' off_1 =>
        conv => whnf
        have e1 : lf many (1 + pcnts (List.take i keys)) = lf many (1 + pcnts keys) := by rw [List.take_of_length_le (by omega)]
      case' on_1 =>
        conv => whnf
        refine br (fun h2 => ?on2_1) (fun h2 => ?off2_1)
        case' off2_1 =>
          conv => whnf
          have e1 : lf many (1 + pcnts (List.take i keys)) = lf many (1 + pcnts keys) := by
            have h := pcnts_le keys i
            exact lf_neg h2 (by omega)
        case on2_1 =>
          have hlt : i < keys.length := by omega
          have hF1 := HC.frame k1.next keys hck (fun j hj => k1.mem j (ltk j (hGk j hj)))
          obtain ⟨c, F0, hld, hcn, _⟩ := hc_load hlt hF1
          obtain ⟨k, q1, q2, q3⟩ := lf_add (c' := pcnt keys[i]) (show (0 : Int) ≤ lf many (1 + pcnts (List.take i keys)) from h2)
          rw [Nat.add_assoc, ← pcnts_take keys i hlt] at q3
          have hcall := ihk i hlt k (by omega) S1 c F0 hcn
          have hma := (k1.mem ak (by assumption)).trans hmk
          rw [q1]
          obtain ⟨c0, c1, c2, c3, c4, c5, c6, c7, c8, rfl⟩ := nine (hn_cells hcn).1
          conv => whnf
          refine ⟨by omega, by omega, ?_⟩
          conv => whnf
          refine ⟨_, cells_of_mem hma, partF_true hld ?_⟩
          conv => whnf
          refine CallQ.mono hcall ?_
          rintro r S9 ⟨rfl, kk⟩
          conv => whnf
          refine ⟨m - 1, i + 1, by omega, ⟨k1.trans kk, by omega⟩, ⟨by rw [q3], rfl, ?_, trivial⟩⟩
          rw [wrap_i64 (by omega) (by omega)]; try rfl
      all_goals
        refine CodeQ.loop (fun (i : Nat) => pat 46 [(1, .int .i64 (lf many (1 + pcnts keys + pcnts (List.take i ([] : List Pl))))), (2, .cptr [.int .i64 kind, .int .u64 n, .bool neg, .str dg, .int .i64 ex, .str tx, vb, .hnd ak 0 keys.length 9, .nils] 0), (6, .int .i64 i)]) (fun m i S1 => Keep S S1 ∧ i + m = List.length ([] : List Pl)) ?_ (List.length ([] : List Pl)) 0 _ _ ⟨k1, by omega⟩ ⟨by rw [e1]; simp [pcnts], rfl, rfl, trivial⟩
        rintro m i S3 d ⟨k3, hi3⟩
        conv => whnf

        refine br (fun h => by exfalso; omega) (fun _ => ?_)
        conv => whnf
        have e3 : lf many (1 + pcnts keys + pcnts (List.take i ([] : List Pl))) = lf many (1 + pcnts keys + pcnts ([] : List Pl)) := by simp

        all_goals
          conv => whnf
          exact ⟨by rw [e3]; rfl, k3⟩
    · refine CallQ.of rfl (by kernel_rfl : Tryd.prog.funcs[28]? = some Tryd.f28) rfl (by decide) ?_
      conv => whnf
      refine CodeQ.loop (fun (i : Nat) => pat 46 [(1, .int .i64 (lf many (1 + pcnts (List.take i keys)))), (2, .cptr [.int .i64 kind, .int .u64 n, .bool neg, .str dg, .int .i64 ex, .str tx, vb, .hnd ak 0 keys.length 9, .hnd ad 0 kids.length 9] 0), (5, .int .i64 i)]) (fun m i S1 => Keep S S1 ∧ i + m = List.length keys) ?_ (List.length keys) 0 _ _ ⟨.refl _, by omega⟩ ⟨by rw [← e0], rfl, rfl, trivial⟩
      rintro m i S1 d ⟨k1, hi1⟩
      conv => whnf

      refine br (fun h => ?on_2) (fun h => ?off_2)
      case' off_2 =>
        conv => whnf
        have e1 : lf many (1 + pcnts (List.take i keys)) = lf many (1 + pcnts keys) := by rw [List.take_of_length_le (by omega)]
      case' on_2 =>
        conv => whnf
        refine br (fun h2 => ?on2_2) (fun h2 => ?off2_2)
        case' off2_2 =>
          conv => whnf
          have e1 : lf many (1 + pcnts (List.take i keys)) = lf many (1 + pcnts keys) := by
            have h := pcnts_le keys i
            exact lf_neg h2 (by omega)
        case on2_2 =>
          have hlt : i < keys.length := by omega
          have hF1 := HC.frame k1.next keys hck (fun j hj => k1.mem j (ltk j (hGk j hj)))
          obtain ⟨c, F0, hld, hcn, _⟩ := hc_load hlt hF1
          obtain ⟨k, q1, q2, q3⟩ := lf_add (c' := pcnt keys[i]) (show (0 : Int) ≤ lf many (1 + pcnts (List.take i keys)) from h2)
          rw [Nat.add_assoc, ← pcnts_take keys i hlt] at q3
          have hcall := ihk i hlt k (by omega) S1 c F0 hcn
          have hma := (k1.mem ak (by assumption)).trans hmk
          rw [q1]
          obtain ⟨c0, c1, c2, c3, c4, c5, c6, c7, c8, rfl⟩ := nine (hn_cells hcn).1
          conv => whnf
          refine ⟨by omega, by omega, ?_⟩
          conv => whnf
          refine ⟨_, cells_of_mem hma, partF_true hld ?_⟩
          conv => whnf
          refine CallQ.mono hcall ?_
          rintro r S9 ⟨rfl, kk⟩
          conv => whnf
          refine ⟨m - 1, i + 1, by omega, ⟨k1.trans kk, by omega⟩, ⟨by rw [q3], rfl, ?_, trivial⟩⟩
          rw [wrap_i64 (by omega) (by omega)]; try rfl
      all_goals
        refine CodeQ.loop (fun (i : Nat) => pat 46 [(1, .int .i64 (lf many (1 + pcnts keys + pcnts (List.take i kids)))), (2, .cptr [.int .i64 kind, .int .u64 n, .bool neg, .str dg, .int .i64 ex, .str tx, vb, .hnd ak 0 keys.length 9, .hnd ad 0 kids.length 9] 0), (6, .int .i64 i)]) (fun m i S1 => Keep S S1 ∧ i + m = List.length kids) ?_ (List.length kids) 0 _ _ ⟨k1, by omega⟩ ⟨by rw [e1]; simp [pcnts], rfl, rfl, trivial⟩
        rintro m i S3 d ⟨k3, hi3⟩
        conv => whnf

        refine br (fun h => ?_) (fun h => ?_)
        rotate_left
        focus
          conv => whnf
          have e3 : lf many (1 + pcnts keys + pcnts (List.take i kids)) = lf many (1 + pcnts keys + pcnts kids) := by rw [List.take_of_length_le (by omega)]
        rotate_left
        focus
          conv => whnf
          refine br (fun h2 => ?_) (fun h2 => ?_)
          rotate_left
          focus
            conv => whnf
            have e3 : lf many (1 + pcnts keys + pcnts (List.take i kids)) = lf many (1 + pcnts keys + pcnts kids) := by
              have h := pcnts_le kids i
              exact lf_neg h2 (by omega)
          rotate_left
          focus
            have hlt : i < kids.length := by omega
            have hF1 := HC.frame k3.next kids hcd (fun j hj => k3.mem j (ltd j (hGd j hj)))
            obtain ⟨c, F0, hld, hcn, _⟩ := hc_load hlt hF1
            obtain ⟨k, q1, q2, q3⟩ := lf_add (c' := pcnt kids[i]) (show (0 : Int) ≤ lf many (1 + pcnts keys + pcnts (List.take i kids)) from h2)
            rw [Nat.add_assoc, ← pcnts_take kids i hlt] at q3
            have hcall := ihd i hlt k (by omega) S3 c F0 hcn
            have hma := (k3.mem ad (by assumption)).trans hmd
            rw [q1]
            obtain ⟨c0, c1, c2, c3, c4, c5, c6, c7, c8, rfl⟩ := nine (hn_cells hcn).1
            conv => whnf
            refine ⟨by omega, by omega, ?_⟩
            conv => whnf
            refine ⟨_, cells_of_mem hma, partF_true hld ?_⟩
            conv => whnf
            refine CallQ.mono hcall ?_
            rintro r S9 ⟨rfl, kk⟩
            conv => whnf
            refine ⟨m - 1, i + 1, by omega, ⟨k3.trans kk, by omega⟩, ⟨by rw [q3], rfl, ?_, trivial⟩⟩
            rw [wrap_i64 (by omega) (by omega)]; try rfl

        all_goals
          conv => whnf
          exact ⟨by rw [e3]; rfl, k3⟩
/-- Nothing turns but this. -/
def Sp (F : List Nat) (S S1 : St) : Prop := S.next ≤ S1.next ∧ ∀ j, j < S.next → j ∉ F → S1.mem j = S.mem j
theorem wrap_ex (z : Int) : ∃ c : UInt8, IntKind.u8.wrap z = (c.toNat : Int) := by
  have h : 0 ≤ IntKind.u8.wrap z ∧ IntKind.u8.wrap z < 256 := by simp [IntKind.wrap, IntKind.bits, IntKind.signed]; omega
  refine ⟨UInt8.ofNat (IntKind.u8.wrap z).toNat, ?_⟩
  rw [UInt8.toNat_ofNat']
  omega
theorem hb_cases {S : St} {bs : List UInt8} {v : AV} {F : List Nat} (h : HB S bs v F) : (v = .nils ∧ bs = []) ∨ ∃ b, v = .hnd b 0 bs.length 1 ∧ S.mem b = some (.cells (bs.map u8)) ∧ b < S.next ∧ F = [b] := by
  rcases h with ⟨rfl, h0, _⟩ | ⟨b, rfl, h1, rfl, h3⟩
  · exact .inl ⟨rfl, h0⟩
  · exact .inr ⟨b, rfl, h3, h1, rfl⟩
theorem hl_cases2 {S : St} {xs : List Pl} {v : AV} {F : List Nat} (h : HL (fun cs G => HC S xs cs G) xs.length S v F) : (v = .nils ∧ xs = []) ∨ ∃ a cs G, v = .hnd a 0 xs.length 9 ∧ S.mem a = some (.cells cs) ∧ HC S xs cs G ∧ a < S.next ∧ F = a :: G ∧ xs.length ≤ 2 ^ 47 := by
  rcases h with ⟨rfl, h0, _⟩ | ⟨a, cs, G, rfl, h1, h2, rfl, h3, h4⟩
  · exact .inl ⟨rfl, List.length_eq_zero_iff.1 h0⟩
  · exact .inr ⟨a, cs, G, rfl, h3, h4, h1, rfl, h2⟩
theorem upd_ex (bs : List UInt8) (i : Nat) (Z : Int) (n : Nat) (hl : bs.length = n) (b : Nat) (S : St) : ∃ bs2 : List UInt8, bs2.length = n ∧ (S.set b (some (.cells (setsA (bs.map u8) (0 + i * 1) [.int .u8 (IntKind.u8.wrap Z)])))).mem b = some (.cells (bs2.map u8)) := by
  obtain ⟨c, hc⟩ := wrap_ex Z
  refine ⟨bs.set i c, by simpa using hl, ?_⟩
  rw [mem_set]
  have : setsA (bs.map u8) (0 + i * 1) [.int .u8 (IntKind.u8.wrap Z)] = (bs.set i c).map u8 := by
    show (bs.map u8).set (0 + i * 1) (.int .u8 (IntKind.u8.wrap Z)) = _
    rw [hc, List.map_set, Nat.zero_add, Nat.mul_one]; rfl
  rw [this]
theorem ld_mid {pre c suf : List AV} {i : Nat} (hp : pre.length = i * 9) (hc : c.length = 9) : (if 0 + i * 9 + 9 ≤ (pre ++ (c ++ suf)).length then some (AV.agg (((pre ++ (c ++ suf)).drop (0 + i * 9)).take 9)) else none) = some (.agg c) := by
  rw [if_pos (by simp; omega), Nat.zero_add, ← hp, List.drop_left, List.take_append_of_le_length (by omega), List.take_of_length_le (by omega)]
theorem Sp.refl (F : List Nat) (S : St) : Sp F S S := ⟨Nat.le_refl _, fun _ _ _ => rfl⟩
/-- A spoilt node. -/
def Z9 : List AV := [.int .i64 (-1), .int .u64 0, .bool false, .str [], .int .i64 0, .str [], .nils, .nils, .nils]
theorem t26 : ∀ (N : Nat) (x : Pl), pcnt x ≤ N → ∀ (S : St) (cs : List AV) (F : List Nat), HN S x cs F → F.Nodup → CallQ Tryd.prog TC 26 [.agg cs] S fun r S1 => r = .tuple [] ∧ Sp F S S1
  | 0, x, h, _, _, _, _, _ => by have := pcnt_pos x; omega
  | N + 1, x, hN, S, cs, F, h, hnd => by
    have ihx : ∀ xs : List Pl, pcnts xs ≤ N → ∀ i (h : i < xs.length) S cs F, HN S xs[i] cs F → F.Nodup → CallQ Tryd.prog TC 26 [.agg cs] S fun r S1 => r = .tuple [] ∧ Sp F S S1 :=
      fun xs h1 i h S cs F hF hn => t26 N xs[i] (Nat.le_trans (pcnt_mem (List.getElem_mem h)) h1) S cs F hF hn
    obtain ⟨kind, n, neg, dg, ex, tx, bs, keys, kids⟩ := x
    simp only [HN] at h
    obtain ⟨vb, vk, vd, Fb, Fk, Fd, rfl, hb, hlb, rfl, hk, hd⟩ := h
    simp only [pcnt] at hN
    have ihk := ihx keys (by omega)
    have ihd := ihx kids (by omega)
    have n0 := List.nodup_append.1 hnd
    have n1 := List.nodup_append.1 n0.2.1
    have dbk : ∀ j ∈ Fk, j ∉ Fb := fun j hj q => n0.2.2 j q j (by simp [hj]) rfl
    have dbd : ∀ j ∈ Fd, j ∉ Fb := fun j hj q => n0.2.2 j q j (by simp [hj]) rfl
    have dkd : ∀ j ∈ Fd, j ∉ Fk := fun j hj q => n1.2.2 j q j hj rfl
    have ltk := hk.lt
    have ltd := hd.lt
    have ndk := n1.1
    have ndd := n1.2.1
    have hbc := hb_cases hb
    have hkc := hl_cases2 hk
    have hdc := hl_cases2 hd
    clear hb hk hd ihx hnd n0 n1
    rcases hbc with ⟨rfl, rfl⟩ | ⟨bb, rfl, hmb, hbb, hFb⟩ <;> rcases hkc with ⟨rfl, rfl⟩ | ⟨ak, ck, Gk, rfl, hmk, hck, hak, hFk, hlk⟩ <;> rcases hdc with ⟨rfl, rfl⟩ | ⟨ad, cd, Gd, rfl, hmd, hcd, had, hFd, hld⟩
    · refine CallQ.of rfl (by kernel_rfl : Tryd.prog.funcs[26]? = some Tryd.f26) rfl (by decide) ?_
      conv => whnf

      refine CodeQ.loop (fun (i : Nat) => pat 55 [(1, .cptr [.int .i64 kind, .int .u64 n, .bool neg, .str dg, .int .i64 ex, .str tx, .nils, .nils, .nils] 0), (7, .int .i64 0), (8, .int .i64 0)]) (fun m i S1 => S1 = S) ?_ 0 0 _ _ rfl ⟨rfl, rfl, rfl, trivial⟩
      rintro m i SA d hSA
      conv => whnf
      refine br (fun h => by exfalso; omega) (fun _ => ?_)
      conv => whnf
      have sA : Sp Fb S SA := by rw [hSA]; exact Sp.refl _ _
      clear hSA

      refine CodeQ.loop (fun (i : Nat) => pat 55 [(1, .cptr [.int .i64 kind, .int .u64 n, .bool neg, .str dg, .int .i64 ex, .str tx, .nils, .nils, .nils] 0), (21, .int .i64 0), (22, .int .i64 0)]) (fun m i S1 => S1 = SA) ?_ 0 0 _ _ rfl ⟨rfl, rfl, rfl, trivial⟩
      rintro m i SB d hSB
      conv => whnf
      refine br (fun h => by exfalso; omega) (fun _ => ?_)
      conv => whnf
      have sB : Sp (Fb ++ Fk) S SB := by rw [hSB]; exact ⟨sA.1, fun j h1 h2 => sA.2 j h1 (fun q => h2 (List.mem_append_left _ q))⟩
      clear hSB

      refine CodeQ.loop (fun (i : Nat) => pat 55 [(1, .cptr [.int .i64 kind, .int .u64 n, .bool neg, .str dg, .int .i64 ex, .str tx, .nils, .nils, .nils] 0), (39, .int .i64 0), (40, .int .i64 0)]) (fun m i S1 => S1 = SB) ?_ 0 0 _ _ rfl ⟨rfl, rfl, rfl, trivial⟩
      rintro m i SC d hSB
      conv => whnf
      refine br (fun h => by exfalso; omega) (fun _ => ?_)
      conv => whnf
      have sC : Sp ((Fb ++ Fk) ++ Fd) S SC := by rw [hSB]; exact ⟨sB.1, fun j h1 h2 => sB.2 j h1 (fun q => h2 (List.mem_append_left _ q))⟩
      clear hSB
      exact ⟨rfl, sC.1, fun j h1 h2 => sC.2 j h1 (fun q => h2 (by simpa [or_assoc] using q))⟩
    · refine CallQ.of rfl (by kernel_rfl : Tryd.prog.funcs[26]? = some Tryd.f26) rfl (by decide) ?_
      conv => whnf

      refine CodeQ.loop (fun (i : Nat) => pat 55 [(1, .cptr [.int .i64 kind, .int .u64 n, .bool neg, .str dg, .int .i64 ex, .str tx, .nils, .nils, .hnd ad 0 kids.length 9] 0), (7, .int .i64 0), (8, .int .i64 0)]) (fun m i S1 => S1 = S) ?_ 0 0 _ _ rfl ⟨rfl, rfl, rfl, trivial⟩
      rintro m i SA d hSA
      conv => whnf
      refine br (fun h => by exfalso; omega) (fun _ => ?_)
      conv => whnf
      have sA : Sp Fb S SA := by rw [hSA]; exact Sp.refl _ _
      clear hSA

      refine CodeQ.loop (fun (i : Nat) => pat 55 [(1, .cptr [.int .i64 kind, .int .u64 n, .bool neg, .str dg, .int .i64 ex, .str tx, .nils, .nils, .hnd ad 0 kids.length 9] 0), (21, .int .i64 0), (22, .int .i64 0)]) (fun m i S1 => S1 = SA) ?_ 0 0 _ _ rfl ⟨rfl, rfl, rfl, trivial⟩
      rintro m i SB d hSB
      conv => whnf
      refine br (fun h => by exfalso; omega) (fun _ => ?_)
      conv => whnf
      have sB : Sp (Fb ++ Fk) S SB := by rw [hSB]; exact ⟨sA.1, fun j h1 h2 => sA.2 j h1 (fun q => h2 (List.mem_append_left _ q))⟩
      clear hSB

      have frz : ∀ j ∈ Fd, SB.mem j = S.mem j := fun j hj => sB.2 j (ltd j hj) (by intro q; first | exact dbd j hj q | (rcases List.mem_append.1 q with q | q; exact dbd j hj q; exact dkd j hj q))
      subst hFd
      have nda := List.nodup_cons.1 ndd
      refine CodeQ.loop (fun (i : Nat) => pat 55 [(1, .cptr [.int .i64 kind, .int .u64 n, .bool neg, .str dg, .int .i64 ex, .str tx, .nils, .nils, .hnd ad 0 kids.length 9] 0), (39, .int .i64 (kids.length : Nat)), (40, .int .i64 i)])
        (fun m i S1 => i + m = kids.length ∧ Sp ((Fb ++ Fk) ++ (ad :: Gd)) S S1 ∧ ∃ pre suf G1 G2, S1.mem ad = some (.cells (pre ++ suf)) ∧ pre.length = i * 9 ∧ Gd = G1 ++ G2 ∧ HC S1 (kids.drop i) suf G2) ?_ kids.length 0 _ _
        ⟨by omega, ⟨sB.1, fun j h1 h2 => sB.2 j h1 (fun q => h2 (List.mem_append_left _ q))⟩, [], cd, [], Gd, by rw [frz ad (by simp)]; simpa using hmd, by simp, by simp, by simpa using HC.frame sB.1 kids hcd (fun j hj => frz j (by simp [hj]))⟩ ⟨rfl, rfl, rfl, trivial⟩
      rintro m i SC d ⟨hi, sC, pre, suf, G1, G2, hma, hpre, hG, hcc⟩
      conv => whnf
      refine br (fun h => ?on_3) (fun h => ?off_3)
      case on_3 =>
        have hlt : i < kids.length := by omega
        rw [List.drop_eq_getElem_cons hlt] at hcc
        simp only [HC] at hcc
        obtain ⟨c, suf', F0, G3, rfl, rfl, hcn, hc3⟩ := hcc
        have hc9 := (hn_cells hcn).1
        have hld := ld_mid (suf := suf') hpre hc9
        have ndG := nda.2
        rw [hG] at ndG
        have nG1 := List.nodup_append.1 ndG
        have nG2 := List.nodup_append.1 nG1.2.1
        have aF0 : ad ∉ F0 := fun q => nda.1 (by rw [hG]; simp [q])
        have aG3 : ad ∉ G3 := fun q => nda.1 (by rw [hG]; simp [q])
        have hcall := ihd i hlt SC c F0 hcn nG2.1
        have haB : ad < SC.next := Nat.lt_of_lt_of_le had sC.1
        have ltF0 := HN.lt _ hcn
        have ltG3 := HC.lt _ hc3
        obtain ⟨C, hC⟩ : ∃ C, C = c := ⟨_, rfl⟩
        rw [← hC] at hma hcall hcn
        rw [hC] at hcall
        obtain ⟨c0, c1, c2, c3, c4, c5, c6, c7, c8, rfl⟩ := nine hc9
        conv => whnf
        refine ⟨by omega, by omega, ?_⟩
        conv => whnf
        rw [hC] at hma
        refine ⟨_, cells_of_mem hma, partF_true hld ?_⟩
        conv => whnf
        refine CallQ.mono hcall ?_
        rintro r S9 ⟨rfl, hsp⟩
        have hma9 : S9.mem ad = _ := (hsp.2 ad haB aF0).trans hma
        conv => whnf
        refine ⟨by omega, by omega, ?_⟩
        conv => whnf
        refine ⟨_, _, cells_of_mem hma9, if_pos ⟨rfl, rfl, by show 0 + i * 9 + 9 ≤ _; simp; omega⟩, ?_⟩
        conv => whnf
        have hset : setsA (pre ++ ([c0, c1, c2, c3, c4, c5, c6, c7, c8] ++ suf')) (0 + i * 9) Z9 = (pre ++ Z9) ++ suf' := by
          rw [Nat.zero_add, ← hpre, setsA_mid Z9 pre [c0, c1, c2, c3, c4, c5, c6, c7, c8] suf' rfl]; simp
        refine ⟨m - 1, i + 1, by omega, ⟨by omega, ⟨Nat.le_trans sC.1 hsp.1, fun j h1 h2 => ?_⟩, pre ++ Z9, suf', G1 ++ F0, G3, ?_, by simp [Z9]; omega, by rw [hG]; simp, ?_⟩, ⟨rfl, rfl, ?_, trivial⟩⟩
        · have hja : j ≠ ad := fun e => h2 (by simp [e])
          rw [set_ne hja, hsp.2 j (Nat.lt_of_lt_of_le h1 sC.1) (fun q => h2 (by rw [hG]; simp [q]))]
          exact sC.2 j h1 h2
        · rw [mem_set]
          exact congrArg (fun l => some (Blk.cells l)) hset
        · refine HC.frame (S := SC) (by show SC.next ≤ S9.next; exact hsp.1) _ hc3 fun j hj => ?_
          have hja : j ≠ ad := fun e => aG3 (by rw [← e]; exact hj)
          rw [set_ne hja, hsp.2 j (ltG3 j hj) (fun q => nG2.2.2 j q j hj rfl)]
        · rw [wrap_i64 (by omega) (by omega)]; try rfl
      conv => whnf
      exact ⟨rfl, sC.1, fun j h1 h2 => sC.2 j h1 (fun q => h2 (by simpa [or_assoc] using q))⟩
    · refine CallQ.of rfl (by kernel_rfl : Tryd.prog.funcs[26]? = some Tryd.f26) rfl (by decide) ?_
      conv => whnf

      refine CodeQ.loop (fun (i : Nat) => pat 55 [(1, .cptr [.int .i64 kind, .int .u64 n, .bool neg, .str dg, .int .i64 ex, .str tx, .nils, .hnd ak 0 keys.length 9, .nils] 0), (7, .int .i64 0), (8, .int .i64 0)]) (fun m i S1 => S1 = S) ?_ 0 0 _ _ rfl ⟨rfl, rfl, rfl, trivial⟩
      rintro m i SA d hSA
      conv => whnf
      refine br (fun h => by exfalso; omega) (fun _ => ?_)
      conv => whnf
      have sA : Sp Fb S SA := by rw [hSA]; exact Sp.refl _ _
      clear hSA

      have frz : ∀ j ∈ Fk, SA.mem j = S.mem j := fun j hj => sA.2 j (ltk j hj) (by intro q; first | exact dbk j hj q | (rcases List.mem_append.1 q with q | q; exact dbd j hj q; exact dkd j hj q))
      subst hFk
      have nda := List.nodup_cons.1 ndk
      refine CodeQ.loop (fun (i : Nat) => pat 55 [(1, .cptr [.int .i64 kind, .int .u64 n, .bool neg, .str dg, .int .i64 ex, .str tx, .nils, .hnd ak 0 keys.length 9, .nils] 0), (21, .int .i64 (keys.length : Nat)), (22, .int .i64 i)])
        (fun m i S1 => i + m = keys.length ∧ Sp (Fb ++ (ak :: Gk)) S S1 ∧ ∃ pre suf G1 G2, S1.mem ak = some (.cells (pre ++ suf)) ∧ pre.length = i * 9 ∧ Gk = G1 ++ G2 ∧ HC S1 (keys.drop i) suf G2) ?_ keys.length 0 _ _
        ⟨by omega, ⟨sA.1, fun j h1 h2 => sA.2 j h1 (fun q => h2 (List.mem_append_left _ q))⟩, [], ck, [], Gk, by rw [frz ak (by simp)]; simpa using hmk, by simp, by simp, by simpa using HC.frame sA.1 keys hck (fun j hj => frz j (by simp [hj]))⟩ ⟨rfl, rfl, rfl, trivial⟩
      rintro m i SB d ⟨hi, sB, pre, suf, G1, G2, hma, hpre, hG, hcc⟩
      conv => whnf
      refine br (fun h => ?on_4) (fun h => ?off_4)
      case on_4 =>
        have hlt : i < keys.length := by omega
        rw [List.drop_eq_getElem_cons hlt] at hcc
        simp only [HC] at hcc
        obtain ⟨c, suf', F0, G3, rfl, rfl, hcn, hc3⟩ := hcc
        have hc9 := (hn_cells hcn).1
        have hld := ld_mid (suf := suf') hpre hc9
        have ndG := nda.2
        rw [hG] at ndG
        have nG1 := List.nodup_append.1 ndG
        have nG2 := List.nodup_append.1 nG1.2.1
        have aF0 : ak ∉ F0 := fun q => nda.1 (by rw [hG]; simp [q])
        have aG3 : ak ∉ G3 := fun q => nda.1 (by rw [hG]; simp [q])
        have hcall := ihk i hlt SB c F0 hcn nG2.1
        have haB : ak < SB.next := Nat.lt_of_lt_of_le hak sB.1
        have ltF0 := HN.lt _ hcn
        have ltG3 := HC.lt _ hc3
        obtain ⟨C, hC⟩ : ∃ C, C = c := ⟨_, rfl⟩
        rw [← hC] at hma hcall hcn
        rw [hC] at hcall
        obtain ⟨c0, c1, c2, c3, c4, c5, c6, c7, c8, rfl⟩ := nine hc9
        conv => whnf
        refine ⟨by omega, by omega, ?_⟩
        conv => whnf
        rw [hC] at hma
        refine ⟨_, cells_of_mem hma, partF_true hld ?_⟩
        conv => whnf
        refine CallQ.mono hcall ?_
        rintro r S9 ⟨rfl, hsp⟩
        have hma9 : S9.mem ak = _ := (hsp.2 ak haB aF0).trans hma
        conv => whnf
        refine ⟨by omega, by omega, ?_⟩
        conv => whnf
        refine ⟨_, _, cells_of_mem hma9, if_pos ⟨rfl, rfl, by show 0 + i * 9 + 9 ≤ _; simp; omega⟩, ?_⟩
        conv => whnf
        have hset : setsA (pre ++ ([c0, c1, c2, c3, c4, c5, c6, c7, c8] ++ suf')) (0 + i * 9) Z9 = (pre ++ Z9) ++ suf' := by
          rw [Nat.zero_add, ← hpre, setsA_mid Z9 pre [c0, c1, c2, c3, c4, c5, c6, c7, c8] suf' rfl]; simp
        refine ⟨m - 1, i + 1, by omega, ⟨by omega, ⟨Nat.le_trans sB.1 hsp.1, fun j h1 h2 => ?_⟩, pre ++ Z9, suf', G1 ++ F0, G3, ?_, by simp [Z9]; omega, by rw [hG]; simp, ?_⟩, ⟨rfl, rfl, ?_, trivial⟩⟩
        · have hja : j ≠ ak := fun e => h2 (by simp [e])
          rw [set_ne hja, hsp.2 j (Nat.lt_of_lt_of_le h1 sB.1) (fun q => h2 (by rw [hG]; simp [q]))]
          exact sB.2 j h1 h2
        · rw [mem_set]
          exact congrArg (fun l => some (Blk.cells l)) hset
        · refine HC.frame (S := SB) (by show SB.next ≤ S9.next; exact hsp.1) _ hc3 fun j hj => ?_
          have hja : j ≠ ak := fun e => aG3 (by rw [← e]; exact hj)
          rw [set_ne hja, hsp.2 j (ltG3 j hj) (fun q => nG2.2.2 j q j hj rfl)]
        · rw [wrap_i64 (by omega) (by omega)]; try rfl
      conv => whnf

      refine CodeQ.loop (fun (i : Nat) => pat 55 [(1, .cptr [.int .i64 kind, .int .u64 n, .bool neg, .str dg, .int .i64 ex, .str tx, .nils, .hnd ak 0 keys.length 9, .nils] 0), (39, .int .i64 0), (40, .int .i64 0)]) (fun m i S1 => S1 = SB) ?_ 0 0 _ _ rfl ⟨rfl, rfl, rfl, trivial⟩
      rintro m i SC d hSB
      conv => whnf
      refine br (fun h => by exfalso; omega) (fun _ => ?_)
      conv => whnf
      have sC : Sp ((Fb ++ (ak :: Gk)) ++ Fd) S SC := by rw [hSB]; exact ⟨sB.1, fun j h1 h2 => sB.2 j h1 (fun q => h2 (List.mem_append_left _ q))⟩
      clear hSB
      exact ⟨rfl, sC.1, fun j h1 h2 => sC.2 j h1 (fun q => h2 (by simpa [or_assoc] using q))⟩
    · refine CallQ.of rfl (by kernel_rfl : Tryd.prog.funcs[26]? = some Tryd.f26) rfl (by decide) ?_
      conv => whnf

      refine CodeQ.loop (fun (i : Nat) => pat 55 [(1, .cptr [.int .i64 kind, .int .u64 n, .bool neg, .str dg, .int .i64 ex, .str tx, .nils, .hnd ak 0 keys.length 9, .hnd ad 0 kids.length 9] 0), (7, .int .i64 0), (8, .int .i64 0)]) (fun m i S1 => S1 = S) ?_ 0 0 _ _ rfl ⟨rfl, rfl, rfl, trivial⟩
      rintro m i SA d hSA
      conv => whnf
      refine br (fun h => by exfalso; omega) (fun _ => ?_)
      conv => whnf
      have sA : Sp Fb S SA := by rw [hSA]; exact Sp.refl _ _
      clear hSA

      have frz : ∀ j ∈ Fk, SA.mem j = S.mem j := fun j hj => sA.2 j (ltk j hj) (by intro q; first | exact dbk j hj q | (rcases List.mem_append.1 q with q | q; exact dbd j hj q; exact dkd j hj q))
      subst hFk
      have nda := List.nodup_cons.1 ndk
      refine CodeQ.loop (fun (i : Nat) => pat 55 [(1, .cptr [.int .i64 kind, .int .u64 n, .bool neg, .str dg, .int .i64 ex, .str tx, .nils, .hnd ak 0 keys.length 9, .hnd ad 0 kids.length 9] 0), (21, .int .i64 (keys.length : Nat)), (22, .int .i64 i)])
        (fun m i S1 => i + m = keys.length ∧ Sp (Fb ++ (ak :: Gk)) S S1 ∧ ∃ pre suf G1 G2, S1.mem ak = some (.cells (pre ++ suf)) ∧ pre.length = i * 9 ∧ Gk = G1 ++ G2 ∧ HC S1 (keys.drop i) suf G2) ?_ keys.length 0 _ _
        ⟨by omega, ⟨sA.1, fun j h1 h2 => sA.2 j h1 (fun q => h2 (List.mem_append_left _ q))⟩, [], ck, [], Gk, by rw [frz ak (by simp)]; simpa using hmk, by simp, by simp, by simpa using HC.frame sA.1 keys hck (fun j hj => frz j (by simp [hj]))⟩ ⟨rfl, rfl, rfl, trivial⟩
      rintro m i SB d ⟨hi, sB, pre, suf, G1, G2, hma, hpre, hG, hcc⟩
      conv => whnf
      refine br (fun h => ?on_5) (fun h => ?off_5)
      case on_5 =>
        have hlt : i < keys.length := by omega
        rw [List.drop_eq_getElem_cons hlt] at hcc
        simp only [HC] at hcc
        obtain ⟨c, suf', F0, G3, rfl, rfl, hcn, hc3⟩ := hcc
        have hc9 := (hn_cells hcn).1
        have hld := ld_mid (suf := suf') hpre hc9
        have ndG := nda.2
        rw [hG] at ndG
        have nG1 := List.nodup_append.1 ndG
        have nG2 := List.nodup_append.1 nG1.2.1
        have aF0 : ak ∉ F0 := fun q => nda.1 (by rw [hG]; simp [q])
        have aG3 : ak ∉ G3 := fun q => nda.1 (by rw [hG]; simp [q])
        have hcall := ihk i hlt SB c F0 hcn nG2.1
        have haB : ak < SB.next := Nat.lt_of_lt_of_le hak sB.1
        have ltF0 := HN.lt _ hcn
        have ltG3 := HC.lt _ hc3
        obtain ⟨C, hC⟩ : ∃ C, C = c := ⟨_, rfl⟩
        rw [← hC] at hma hcall hcn
        rw [hC] at hcall
        obtain ⟨c0, c1, c2, c3, c4, c5, c6, c7, c8, rfl⟩ := nine hc9
        conv => whnf
        refine ⟨by omega, by omega, ?_⟩
        conv => whnf
        rw [hC] at hma
        refine ⟨_, cells_of_mem hma, partF_true hld ?_⟩
        conv => whnf
        refine CallQ.mono hcall ?_
        rintro r S9 ⟨rfl, hsp⟩
        have hma9 : S9.mem ak = _ := (hsp.2 ak haB aF0).trans hma
        conv => whnf
        refine ⟨by omega, by omega, ?_⟩
        conv => whnf
        refine ⟨_, _, cells_of_mem hma9, if_pos ⟨rfl, rfl, by show 0 + i * 9 + 9 ≤ _; simp; omega⟩, ?_⟩
        conv => whnf
        have hset : setsA (pre ++ ([c0, c1, c2, c3, c4, c5, c6, c7, c8] ++ suf')) (0 + i * 9) Z9 = (pre ++ Z9) ++ suf' := by
          rw [Nat.zero_add, ← hpre, setsA_mid Z9 pre [c0, c1, c2, c3, c4, c5, c6, c7, c8] suf' rfl]; simp
        refine ⟨m - 1, i + 1, by omega, ⟨by omega, ⟨Nat.le_trans sB.1 hsp.1, fun j h1 h2 => ?_⟩, pre ++ Z9, suf', G1 ++ F0, G3, ?_, by simp [Z9]; omega, by rw [hG]; simp, ?_⟩, ⟨rfl, rfl, ?_, trivial⟩⟩
        · have hja : j ≠ ak := fun e => h2 (by simp [e])
          rw [set_ne hja, hsp.2 j (Nat.lt_of_lt_of_le h1 sB.1) (fun q => h2 (by rw [hG]; simp [q]))]
          exact sB.2 j h1 h2
        · rw [mem_set]
          exact congrArg (fun l => some (Blk.cells l)) hset
        · refine HC.frame (S := SB) (by show SB.next ≤ S9.next; exact hsp.1) _ hc3 fun j hj => ?_
          have hja : j ≠ ak := fun e => aG3 (by rw [← e]; exact hj)
          rw [set_ne hja, hsp.2 j (ltG3 j hj) (fun q => nG2.2.2 j q j hj rfl)]
        · rw [wrap_i64 (by omega) (by omega)]; try rfl
      conv => whnf

      have frz : ∀ j ∈ Fd, SB.mem j = S.mem j := fun j hj => sB.2 j (ltd j hj) (by intro q; first | exact dbd j hj q | (rcases List.mem_append.1 q with q | q; exact dbd j hj q; exact dkd j hj q))
      subst hFd
      have nda := List.nodup_cons.1 ndd
      refine CodeQ.loop (fun (i : Nat) => pat 55 [(1, .cptr [.int .i64 kind, .int .u64 n, .bool neg, .str dg, .int .i64 ex, .str tx, .nils, .hnd ak 0 keys.length 9, .hnd ad 0 kids.length 9] 0), (39, .int .i64 (kids.length : Nat)), (40, .int .i64 i)])
        (fun m i S1 => i + m = kids.length ∧ Sp ((Fb ++ (ak :: Gk)) ++ (ad :: Gd)) S S1 ∧ ∃ pre suf G1 G2, S1.mem ad = some (.cells (pre ++ suf)) ∧ pre.length = i * 9 ∧ Gd = G1 ++ G2 ∧ HC S1 (kids.drop i) suf G2) ?_ kids.length 0 _ _
        ⟨by omega, ⟨sB.1, fun j h1 h2 => sB.2 j h1 (fun q => h2 (List.mem_append_left _ q))⟩, [], cd, [], Gd, by rw [frz ad (by simp)]; simpa using hmd, by simp, by simp, by simpa using HC.frame sB.1 kids hcd (fun j hj => frz j (by simp [hj]))⟩ ⟨rfl, rfl, rfl, trivial⟩
      rintro m i SC d ⟨hi, sC, pre, suf, G1, G2, hma, hpre, hG, hcc⟩
      conv => whnf
      refine br (fun h => ?on_6) (fun h => ?off_6)
      case on_6 =>
        have hlt : i < kids.length := by omega
        rw [List.drop_eq_getElem_cons hlt] at hcc
        simp only [HC] at hcc
        obtain ⟨c, suf', F0, G3, rfl, rfl, hcn, hc3⟩ := hcc
        have hc9 := (hn_cells hcn).1
        have hld := ld_mid (suf := suf') hpre hc9
        have ndG := nda.2
        rw [hG] at ndG
        have nG1 := List.nodup_append.1 ndG
        have nG2 := List.nodup_append.1 nG1.2.1
        have aF0 : ad ∉ F0 := fun q => nda.1 (by rw [hG]; simp [q])
        have aG3 : ad ∉ G3 := fun q => nda.1 (by rw [hG]; simp [q])
        have hcall := ihd i hlt SC c F0 hcn nG2.1
        have haB : ad < SC.next := Nat.lt_of_lt_of_le had sC.1
        have ltF0 := HN.lt _ hcn
        have ltG3 := HC.lt _ hc3
        obtain ⟨C, hC⟩ : ∃ C, C = c := ⟨_, rfl⟩
        rw [← hC] at hma hcall hcn
        rw [hC] at hcall
        obtain ⟨c0, c1, c2, c3, c4, c5, c6, c7, c8, rfl⟩ := nine hc9
        conv => whnf
        refine ⟨by omega, by omega, ?_⟩
        conv => whnf
        rw [hC] at hma
        refine ⟨_, cells_of_mem hma, partF_true hld ?_⟩
        conv => whnf
        refine CallQ.mono hcall ?_
        rintro r S9 ⟨rfl, hsp⟩
        have hma9 : S9.mem ad = _ := (hsp.2 ad haB aF0).trans hma
        conv => whnf
        refine ⟨by omega, by omega, ?_⟩
        conv => whnf
        refine ⟨_, _, cells_of_mem hma9, if_pos ⟨rfl, rfl, by show 0 + i * 9 + 9 ≤ _; simp; omega⟩, ?_⟩
        conv => whnf
        have hset : setsA (pre ++ ([c0, c1, c2, c3, c4, c5, c6, c7, c8] ++ suf')) (0 + i * 9) Z9 = (pre ++ Z9) ++ suf' := by
          rw [Nat.zero_add, ← hpre, setsA_mid Z9 pre [c0, c1, c2, c3, c4, c5, c6, c7, c8] suf' rfl]; simp
        refine ⟨m - 1, i + 1, by omega, ⟨by omega, ⟨Nat.le_trans sC.1 hsp.1, fun j h1 h2 => ?_⟩, pre ++ Z9, suf', G1 ++ F0, G3, ?_, by simp [Z9]; omega, by rw [hG]; simp, ?_⟩, ⟨rfl, rfl, ?_, trivial⟩⟩
        · have hja : j ≠ ad := fun e => h2 (by simp [e])
          rw [set_ne hja, hsp.2 j (Nat.lt_of_lt_of_le h1 sC.1) (fun q => h2 (by rw [hG]; simp [q]))]
          exact sC.2 j h1 h2
        · rw [mem_set]
          exact congrArg (fun l => some (Blk.cells l)) hset
        · refine HC.frame (S := SC) (by show SC.next ≤ S9.next; exact hsp.1) _ hc3 fun j hj => ?_
          have hja : j ≠ ad := fun e => aG3 (by rw [← e]; exact hj)
          rw [set_ne hja, hsp.2 j (ltG3 j hj) (fun q => nG2.2.2 j q j hj rfl)]
        · rw [wrap_i64 (by omega) (by omega)]; try rfl
      conv => whnf
      exact ⟨rfl, sC.1, fun j h1 h2 => sC.2 j h1 (fun q => h2 (by simpa [or_assoc] using q))⟩
    · refine CallQ.of rfl (by kernel_rfl : Tryd.prog.funcs[26]? = some Tryd.f26) rfl (by decide) ?_
      conv => whnf

      subst hFb
      refine CodeQ.loop (fun (i : Nat) => pat 55 [(1, .cptr [.int .i64 kind, .int .u64 n, .bool neg, .str dg, .int .i64 ex, .str tx, .hnd bb 0 bs.length 1, .nils, .nils] 0), (7, .int .i64 (bs.length : Nat)), (8, .int .i64 i)])
        (fun m i S1 => i + m = bs.length ∧ S1.next = S.next ∧ (∀ j, j ≠ bb → S1.mem j = S.mem j) ∧ ∃ bs2 : List UInt8, bs2.length = bs.length ∧ S1.mem bb = some (.cells (bs2.map u8))) ?_ bs.length 0 _ _ ⟨by omega, rfl, fun _ _ => rfl, bs, rfl, hmb⟩ ⟨rfl, rfl, rfl, trivial⟩
      rintro m i SA d ⟨hi, hn, hsm, bs2, hl2, hmA⟩
      conv => whnf
      refine br (fun h => ?on_7) (fun h => ?off_7)
      case on_7 =>
        have hlt : i < bs2.length := by omega
        have hget : (bs2.map u8)[0 + i * 1]? = some (u8 bs2[i]) := by rw [Nat.zero_add, Nat.mul_one]; simp [hlt]
        generalize bs2[i] = x at *
        conv => whnf
        refine ⟨by omega, by omega, ?_⟩
        conv => whnf
        refine ⟨_, cells_of_mem hmA, partF_of hget ?_⟩
        conv => whnf
        refine ⟨by omega, by omega, ?_⟩
        conv => whnf
        refine ⟨_, _, cells_of_mem hmA, if_pos ⟨rfl, rfl, by show 0 + i * 1 + 1 ≤ _; simp; omega⟩, ?_⟩
        conv => whnf
        refine ⟨m - 1, i + 1, by omega, ⟨by omega, hn, fun j hj => by rw [set_ne hj]; exact hsm j hj, upd_ex bs2 i _ _ hl2 bb SA⟩, ⟨rfl, rfl, ?_, trivial⟩⟩
        rw [wrap_i64 (by omega) (by omega)]; try rfl
      conv => whnf
      have sA : Sp [bb] S SA := ⟨by omega, fun j h1 h2 => hsm j (fun e => h2 (by simp [e]))⟩

      refine CodeQ.loop (fun (i : Nat) => pat 55 [(1, .cptr [.int .i64 kind, .int .u64 n, .bool neg, .str dg, .int .i64 ex, .str tx, .hnd bb 0 bs.length 1, .nils, .nils] 0), (21, .int .i64 0), (22, .int .i64 0)]) (fun m i S1 => S1 = SA) ?_ 0 0 _ _ rfl ⟨rfl, rfl, rfl, trivial⟩
      rintro m i SB d hSB
      conv => whnf
      refine br (fun h => by exfalso; omega) (fun _ => ?_)
      conv => whnf
      have sB : Sp ([bb] ++ Fk) S SB := by rw [hSB]; exact ⟨sA.1, fun j h1 h2 => sA.2 j h1 (fun q => h2 (List.mem_append_left _ q))⟩
      clear hSB

      refine CodeQ.loop (fun (i : Nat) => pat 55 [(1, .cptr [.int .i64 kind, .int .u64 n, .bool neg, .str dg, .int .i64 ex, .str tx, .hnd bb 0 bs.length 1, .nils, .nils] 0), (39, .int .i64 0), (40, .int .i64 0)]) (fun m i S1 => S1 = SB) ?_ 0 0 _ _ rfl ⟨rfl, rfl, rfl, trivial⟩
      rintro m i SC d hSB
      conv => whnf
      refine br (fun h => by exfalso; omega) (fun _ => ?_)
      conv => whnf
      have sC : Sp (([bb] ++ Fk) ++ Fd) S SC := by rw [hSB]; exact ⟨sB.1, fun j h1 h2 => sB.2 j h1 (fun q => h2 (List.mem_append_left _ q))⟩
      clear hSB
      exact ⟨rfl, sC.1, fun j h1 h2 => sC.2 j h1 (fun q => h2 (by simpa [or_assoc] using q))⟩
    · refine CallQ.of rfl (by kernel_rfl : Tryd.prog.funcs[26]? = some Tryd.f26) rfl (by decide) ?_
      conv => whnf

      subst hFb
      refine CodeQ.loop (fun (i : Nat) => pat 55 [(1, .cptr [.int .i64 kind, .int .u64 n, .bool neg, .str dg, .int .i64 ex, .str tx, .hnd bb 0 bs.length 1, .nils, .hnd ad 0 kids.length 9] 0), (7, .int .i64 (bs.length : Nat)), (8, .int .i64 i)])
        (fun m i S1 => i + m = bs.length ∧ S1.next = S.next ∧ (∀ j, j ≠ bb → S1.mem j = S.mem j) ∧ ∃ bs2 : List UInt8, bs2.length = bs.length ∧ S1.mem bb = some (.cells (bs2.map u8))) ?_ bs.length 0 _ _ ⟨by omega, rfl, fun _ _ => rfl, bs, rfl, hmb⟩ ⟨rfl, rfl, rfl, trivial⟩
      rintro m i SA d ⟨hi, hn, hsm, bs2, hl2, hmA⟩
      conv => whnf
      refine br (fun h => ?on_8) (fun h => ?off_8)
      case on_8 =>
        have hlt : i < bs2.length := by omega
        have hget : (bs2.map u8)[0 + i * 1]? = some (u8 bs2[i]) := by rw [Nat.zero_add, Nat.mul_one]; simp [hlt]
        generalize bs2[i] = x at *
        conv => whnf
        refine ⟨by omega, by omega, ?_⟩
        conv => whnf
        refine ⟨_, cells_of_mem hmA, partF_of hget ?_⟩
        conv => whnf
        refine ⟨by omega, by omega, ?_⟩
        conv => whnf
        refine ⟨_, _, cells_of_mem hmA, if_pos ⟨rfl, rfl, by show 0 + i * 1 + 1 ≤ _; simp; omega⟩, ?_⟩
        conv => whnf
        refine ⟨m - 1, i + 1, by omega, ⟨by omega, hn, fun j hj => by rw [set_ne hj]; exact hsm j hj, upd_ex bs2 i _ _ hl2 bb SA⟩, ⟨rfl, rfl, ?_, trivial⟩⟩
        rw [wrap_i64 (by omega) (by omega)]; try rfl
      conv => whnf
      have sA : Sp [bb] S SA := ⟨by omega, fun j h1 h2 => hsm j (fun e => h2 (by simp [e]))⟩

      refine CodeQ.loop (fun (i : Nat) => pat 55 [(1, .cptr [.int .i64 kind, .int .u64 n, .bool neg, .str dg, .int .i64 ex, .str tx, .hnd bb 0 bs.length 1, .nils, .hnd ad 0 kids.length 9] 0), (21, .int .i64 0), (22, .int .i64 0)]) (fun m i S1 => S1 = SA) ?_ 0 0 _ _ rfl ⟨rfl, rfl, rfl, trivial⟩
      rintro m i SB d hSB
      conv => whnf
      refine br (fun h => by exfalso; omega) (fun _ => ?_)
      conv => whnf
      have sB : Sp ([bb] ++ Fk) S SB := by rw [hSB]; exact ⟨sA.1, fun j h1 h2 => sA.2 j h1 (fun q => h2 (List.mem_append_left _ q))⟩
      clear hSB

      have frz : ∀ j ∈ Fd, SB.mem j = S.mem j := fun j hj => sB.2 j (ltd j hj) (by intro q; first | exact dbd j hj q | (rcases List.mem_append.1 q with q | q; exact dbd j hj q; exact dkd j hj q))
      subst hFd
      have nda := List.nodup_cons.1 ndd
      refine CodeQ.loop (fun (i : Nat) => pat 55 [(1, .cptr [.int .i64 kind, .int .u64 n, .bool neg, .str dg, .int .i64 ex, .str tx, .hnd bb 0 bs.length 1, .nils, .hnd ad 0 kids.length 9] 0), (39, .int .i64 (kids.length : Nat)), (40, .int .i64 i)])
        (fun m i S1 => i + m = kids.length ∧ Sp (([bb] ++ Fk) ++ (ad :: Gd)) S S1 ∧ ∃ pre suf G1 G2, S1.mem ad = some (.cells (pre ++ suf)) ∧ pre.length = i * 9 ∧ Gd = G1 ++ G2 ∧ HC S1 (kids.drop i) suf G2) ?_ kids.length 0 _ _
        ⟨by omega, ⟨sB.1, fun j h1 h2 => sB.2 j h1 (fun q => h2 (List.mem_append_left _ q))⟩, [], cd, [], Gd, by rw [frz ad (by simp)]; simpa using hmd, by simp, by simp, by simpa using HC.frame sB.1 kids hcd (fun j hj => frz j (by simp [hj]))⟩ ⟨rfl, rfl, rfl, trivial⟩
      rintro m i SC d ⟨hi, sC, pre, suf, G1, G2, hma, hpre, hG, hcc⟩
      conv => whnf
      refine br (fun h => ?on_9) (fun h => ?off_9)
      case on_9 =>
        have hlt : i < kids.length := by omega
        rw [List.drop_eq_getElem_cons hlt] at hcc
        simp only [HC] at hcc
        obtain ⟨c, suf', F0, G3, rfl, rfl, hcn, hc3⟩ := hcc
        have hc9 := (hn_cells hcn).1
        have hld := ld_mid (suf := suf') hpre hc9
        have ndG := nda.2
        rw [hG] at ndG
        have nG1 := List.nodup_append.1 ndG
        have nG2 := List.nodup_append.1 nG1.2.1
        have aF0 : ad ∉ F0 := fun q => nda.1 (by rw [hG]; simp [q])
        have aG3 : ad ∉ G3 := fun q => nda.1 (by rw [hG]; simp [q])
        have hcall := ihd i hlt SC c F0 hcn nG2.1
        have haB : ad < SC.next := Nat.lt_of_lt_of_le had sC.1
        have ltF0 := HN.lt _ hcn
        have ltG3 := HC.lt _ hc3
        obtain ⟨C, hC⟩ : ∃ C, C = c := ⟨_, rfl⟩
        rw [← hC] at hma hcall hcn
        rw [hC] at hcall
        obtain ⟨c0, c1, c2, c3, c4, c5, c6, c7, c8, rfl⟩ := nine hc9
        conv => whnf
        refine ⟨by omega, by omega, ?_⟩
        conv => whnf
        rw [hC] at hma
        refine ⟨_, cells_of_mem hma, partF_true hld ?_⟩
        conv => whnf
        refine CallQ.mono hcall ?_
        rintro r S9 ⟨rfl, hsp⟩
        have hma9 : S9.mem ad = _ := (hsp.2 ad haB aF0).trans hma
        conv => whnf
        refine ⟨by omega, by omega, ?_⟩
        conv => whnf
        refine ⟨_, _, cells_of_mem hma9, if_pos ⟨rfl, rfl, by show 0 + i * 9 + 9 ≤ _; simp; omega⟩, ?_⟩
        conv => whnf
        have hset : setsA (pre ++ ([c0, c1, c2, c3, c4, c5, c6, c7, c8] ++ suf')) (0 + i * 9) Z9 = (pre ++ Z9) ++ suf' := by
          rw [Nat.zero_add, ← hpre, setsA_mid Z9 pre [c0, c1, c2, c3, c4, c5, c6, c7, c8] suf' rfl]; simp
        refine ⟨m - 1, i + 1, by omega, ⟨by omega, ⟨Nat.le_trans sC.1 hsp.1, fun j h1 h2 => ?_⟩, pre ++ Z9, suf', G1 ++ F0, G3, ?_, by simp [Z9]; omega, by rw [hG]; simp, ?_⟩, ⟨rfl, rfl, ?_, trivial⟩⟩
        · have hja : j ≠ ad := fun e => h2 (by simp [e])
          rw [set_ne hja, hsp.2 j (Nat.lt_of_lt_of_le h1 sC.1) (fun q => h2 (by rw [hG]; simp [q]))]
          exact sC.2 j h1 h2
        · rw [mem_set]
          exact congrArg (fun l => some (Blk.cells l)) hset
        · refine HC.frame (S := SC) (by show SC.next ≤ S9.next; exact hsp.1) _ hc3 fun j hj => ?_
          have hja : j ≠ ad := fun e => aG3 (by rw [← e]; exact hj)
          rw [set_ne hja, hsp.2 j (ltG3 j hj) (fun q => nG2.2.2 j q j hj rfl)]
        · rw [wrap_i64 (by omega) (by omega)]; try rfl
      conv => whnf
      exact ⟨rfl, sC.1, fun j h1 h2 => sC.2 j h1 (fun q => h2 (by simpa [or_assoc] using q))⟩
    · refine CallQ.of rfl (by kernel_rfl : Tryd.prog.funcs[26]? = some Tryd.f26) rfl (by decide) ?_
      conv => whnf

      subst hFb
      refine CodeQ.loop (fun (i : Nat) => pat 55 [(1, .cptr [.int .i64 kind, .int .u64 n, .bool neg, .str dg, .int .i64 ex, .str tx, .hnd bb 0 bs.length 1, .hnd ak 0 keys.length 9, .nils] 0), (7, .int .i64 (bs.length : Nat)), (8, .int .i64 i)])
        (fun m i S1 => i + m = bs.length ∧ S1.next = S.next ∧ (∀ j, j ≠ bb → S1.mem j = S.mem j) ∧ ∃ bs2 : List UInt8, bs2.length = bs.length ∧ S1.mem bb = some (.cells (bs2.map u8))) ?_ bs.length 0 _ _ ⟨by omega, rfl, fun _ _ => rfl, bs, rfl, hmb⟩ ⟨rfl, rfl, rfl, trivial⟩
      rintro m i SA d ⟨hi, hn, hsm, bs2, hl2, hmA⟩
      conv => whnf
      refine br (fun h => ?on_10) (fun h => ?off_10)
      case on_10 =>
        have hlt : i < bs2.length := by omega
        have hget : (bs2.map u8)[0 + i * 1]? = some (u8 bs2[i]) := by rw [Nat.zero_add, Nat.mul_one]; simp [hlt]
        generalize bs2[i] = x at *
        conv => whnf
        refine ⟨by omega, by omega, ?_⟩
        conv => whnf
        refine ⟨_, cells_of_mem hmA, partF_of hget ?_⟩
        conv => whnf
        refine ⟨by omega, by omega, ?_⟩
        conv => whnf
        refine ⟨_, _, cells_of_mem hmA, if_pos ⟨rfl, rfl, by show 0 + i * 1 + 1 ≤ _; simp; omega⟩, ?_⟩
        conv => whnf
        refine ⟨m - 1, i + 1, by omega, ⟨by omega, hn, fun j hj => by rw [set_ne hj]; exact hsm j hj, upd_ex bs2 i _ _ hl2 bb SA⟩, ⟨rfl, rfl, ?_, trivial⟩⟩
        rw [wrap_i64 (by omega) (by omega)]; try rfl
      conv => whnf
      have sA : Sp [bb] S SA := ⟨by omega, fun j h1 h2 => hsm j (fun e => h2 (by simp [e]))⟩

      have frz : ∀ j ∈ Fk, SA.mem j = S.mem j := fun j hj => sA.2 j (ltk j hj) (by intro q; first | exact dbk j hj q | (rcases List.mem_append.1 q with q | q; exact dbd j hj q; exact dkd j hj q))
      subst hFk
      have nda := List.nodup_cons.1 ndk
      refine CodeQ.loop (fun (i : Nat) => pat 55 [(1, .cptr [.int .i64 kind, .int .u64 n, .bool neg, .str dg, .int .i64 ex, .str tx, .hnd bb 0 bs.length 1, .hnd ak 0 keys.length 9, .nils] 0), (21, .int .i64 (keys.length : Nat)), (22, .int .i64 i)])
        (fun m i S1 => i + m = keys.length ∧ Sp ([bb] ++ (ak :: Gk)) S S1 ∧ ∃ pre suf G1 G2, S1.mem ak = some (.cells (pre ++ suf)) ∧ pre.length = i * 9 ∧ Gk = G1 ++ G2 ∧ HC S1 (keys.drop i) suf G2) ?_ keys.length 0 _ _
        ⟨by omega, ⟨sA.1, fun j h1 h2 => sA.2 j h1 (fun q => h2 (List.mem_append_left _ q))⟩, [], ck, [], Gk, by rw [frz ak (by simp)]; simpa using hmk, by simp, by simp, by simpa using HC.frame sA.1 keys hck (fun j hj => frz j (by simp [hj]))⟩ ⟨rfl, rfl, rfl, trivial⟩
      rintro m i SB d ⟨hi, sB, pre, suf, G1, G2, hma, hpre, hG, hcc⟩
      conv => whnf
      refine br (fun h => ?on_11) (fun h => ?off_11)
      case on_11 =>
        have hlt : i < keys.length := by omega
        rw [List.drop_eq_getElem_cons hlt] at hcc
        simp only [HC] at hcc
        obtain ⟨c, suf', F0, G3, rfl, rfl, hcn, hc3⟩ := hcc
        have hc9 := (hn_cells hcn).1
        have hld := ld_mid (suf := suf') hpre hc9
        have ndG := nda.2
        rw [hG] at ndG
        have nG1 := List.nodup_append.1 ndG
        have nG2 := List.nodup_append.1 nG1.2.1
        have aF0 : ak ∉ F0 := fun q => nda.1 (by rw [hG]; simp [q])
        have aG3 : ak ∉ G3 := fun q => nda.1 (by rw [hG]; simp [q])
        have hcall := ihk i hlt SB c F0 hcn nG2.1
        have haB : ak < SB.next := Nat.lt_of_lt_of_le hak sB.1
        have ltF0 := HN.lt _ hcn
        have ltG3 := HC.lt _ hc3
        obtain ⟨C, hC⟩ : ∃ C, C = c := ⟨_, rfl⟩
        rw [← hC] at hma hcall hcn
        rw [hC] at hcall
        obtain ⟨c0, c1, c2, c3, c4, c5, c6, c7, c8, rfl⟩ := nine hc9
        conv => whnf
        refine ⟨by omega, by omega, ?_⟩
        conv => whnf
        rw [hC] at hma
        refine ⟨_, cells_of_mem hma, partF_true hld ?_⟩
        conv => whnf
        refine CallQ.mono hcall ?_
        rintro r S9 ⟨rfl, hsp⟩
        have hma9 : S9.mem ak = _ := (hsp.2 ak haB aF0).trans hma
        conv => whnf
        refine ⟨by omega, by omega, ?_⟩
        conv => whnf
        refine ⟨_, _, cells_of_mem hma9, if_pos ⟨rfl, rfl, by show 0 + i * 9 + 9 ≤ _; simp; omega⟩, ?_⟩
        conv => whnf
        have hset : setsA (pre ++ ([c0, c1, c2, c3, c4, c5, c6, c7, c8] ++ suf')) (0 + i * 9) Z9 = (pre ++ Z9) ++ suf' := by
          rw [Nat.zero_add, ← hpre, setsA_mid Z9 pre [c0, c1, c2, c3, c4, c5, c6, c7, c8] suf' rfl]; simp
        refine ⟨m - 1, i + 1, by omega, ⟨by omega, ⟨Nat.le_trans sB.1 hsp.1, fun j h1 h2 => ?_⟩, pre ++ Z9, suf', G1 ++ F0, G3, ?_, by simp [Z9]; omega, by rw [hG]; simp, ?_⟩, ⟨rfl, rfl, ?_, trivial⟩⟩
        · have hja : j ≠ ak := fun e => h2 (by simp [e])
          rw [set_ne hja, hsp.2 j (Nat.lt_of_lt_of_le h1 sB.1) (fun q => h2 (by rw [hG]; simp [q]))]
          exact sB.2 j h1 h2
        · rw [mem_set]
          exact congrArg (fun l => some (Blk.cells l)) hset
        · refine HC.frame (S := SB) (by show SB.next ≤ S9.next; exact hsp.1) _ hc3 fun j hj => ?_
          have hja : j ≠ ak := fun e => aG3 (by rw [← e]; exact hj)
          rw [set_ne hja, hsp.2 j (ltG3 j hj) (fun q => nG2.2.2 j q j hj rfl)]
        · rw [wrap_i64 (by omega) (by omega)]; try rfl
      conv => whnf

      refine CodeQ.loop (fun (i : Nat) => pat 55 [(1, .cptr [.int .i64 kind, .int .u64 n, .bool neg, .str dg, .int .i64 ex, .str tx, .hnd bb 0 bs.length 1, .hnd ak 0 keys.length 9, .nils] 0), (39, .int .i64 0), (40, .int .i64 0)]) (fun m i S1 => S1 = SB) ?_ 0 0 _ _ rfl ⟨rfl, rfl, rfl, trivial⟩
      rintro m i SC d hSB
      conv => whnf
      refine br (fun h => by exfalso; omega) (fun _ => ?_)
      conv => whnf
      have sC : Sp (([bb] ++ (ak :: Gk)) ++ Fd) S SC := by rw [hSB]; exact ⟨sB.1, fun j h1 h2 => sB.2 j h1 (fun q => h2 (List.mem_append_left _ q))⟩
      clear hSB
      exact ⟨rfl, sC.1, fun j h1 h2 => sC.2 j h1 (fun q => h2 (by simpa [or_assoc] using q))⟩
    · refine CallQ.of rfl (by kernel_rfl : Tryd.prog.funcs[26]? = some Tryd.f26) rfl (by decide) ?_
      conv => whnf

      subst hFb
      refine CodeQ.loop (fun (i : Nat) => pat 55 [(1, .cptr [.int .i64 kind, .int .u64 n, .bool neg, .str dg, .int .i64 ex, .str tx, .hnd bb 0 bs.length 1, .hnd ak 0 keys.length 9, .hnd ad 0 kids.length 9] 0), (7, .int .i64 (bs.length : Nat)), (8, .int .i64 i)])
        (fun m i S1 => i + m = bs.length ∧ S1.next = S.next ∧ (∀ j, j ≠ bb → S1.mem j = S.mem j) ∧ ∃ bs2 : List UInt8, bs2.length = bs.length ∧ S1.mem bb = some (.cells (bs2.map u8))) ?_ bs.length 0 _ _ ⟨by omega, rfl, fun _ _ => rfl, bs, rfl, hmb⟩ ⟨rfl, rfl, rfl, trivial⟩
      rintro m i SA d ⟨hi, hn, hsm, bs2, hl2, hmA⟩
      conv => whnf
      refine br (fun h => ?on_12) (fun h => ?off_12)
      case on_12 =>
        have hlt : i < bs2.length := by omega
        have hget : (bs2.map u8)[0 + i * 1]? = some (u8 bs2[i]) := by rw [Nat.zero_add, Nat.mul_one]; simp [hlt]
        generalize bs2[i] = x at *
        conv => whnf
        refine ⟨by omega, by omega, ?_⟩
        conv => whnf
        refine ⟨_, cells_of_mem hmA, partF_of hget ?_⟩
        conv => whnf
        refine ⟨by omega, by omega, ?_⟩
        conv => whnf
        refine ⟨_, _, cells_of_mem hmA, if_pos ⟨rfl, rfl, by show 0 + i * 1 + 1 ≤ _; simp; omega⟩, ?_⟩
        conv => whnf
        refine ⟨m - 1, i + 1, by omega, ⟨by omega, hn, fun j hj => by rw [set_ne hj]; exact hsm j hj, upd_ex bs2 i _ _ hl2 bb SA⟩, ⟨rfl, rfl, ?_, trivial⟩⟩
        rw [wrap_i64 (by omega) (by omega)]; try rfl
      conv => whnf
      have sA : Sp [bb] S SA := ⟨by omega, fun j h1 h2 => hsm j (fun e => h2 (by simp [e]))⟩

      have frz : ∀ j ∈ Fk, SA.mem j = S.mem j := fun j hj => sA.2 j (ltk j hj) (by intro q; first | exact dbk j hj q | (rcases List.mem_append.1 q with q | q; exact dbd j hj q; exact dkd j hj q))
      subst hFk
      have nda := List.nodup_cons.1 ndk
      refine CodeQ.loop (fun (i : Nat) => pat 55 [(1, .cptr [.int .i64 kind, .int .u64 n, .bool neg, .str dg, .int .i64 ex, .str tx, .hnd bb 0 bs.length 1, .hnd ak 0 keys.length 9, .hnd ad 0 kids.length 9] 0), (21, .int .i64 (keys.length : Nat)), (22, .int .i64 i)])
        (fun m i S1 => i + m = keys.length ∧ Sp ([bb] ++ (ak :: Gk)) S S1 ∧ ∃ pre suf G1 G2, S1.mem ak = some (.cells (pre ++ suf)) ∧ pre.length = i * 9 ∧ Gk = G1 ++ G2 ∧ HC S1 (keys.drop i) suf G2) ?_ keys.length 0 _ _
        ⟨by omega, ⟨sA.1, fun j h1 h2 => sA.2 j h1 (fun q => h2 (List.mem_append_left _ q))⟩, [], ck, [], Gk, by rw [frz ak (by simp)]; simpa using hmk, by simp, by simp, by simpa using HC.frame sA.1 keys hck (fun j hj => frz j (by simp [hj]))⟩ ⟨rfl, rfl, rfl, trivial⟩
      rintro m i SB d ⟨hi, sB, pre, suf, G1, G2, hma, hpre, hG, hcc⟩
      conv => whnf
      refine br (fun h => ?on_13) (fun h => ?off_13)
      case on_13 =>
        have hlt : i < keys.length := by omega
        rw [List.drop_eq_getElem_cons hlt] at hcc
        simp only [HC] at hcc
        obtain ⟨c, suf', F0, G3, rfl, rfl, hcn, hc3⟩ := hcc
        have hc9 := (hn_cells hcn).1
        have hld := ld_mid (suf := suf') hpre hc9
        have ndG := nda.2
        rw [hG] at ndG
        have nG1 := List.nodup_append.1 ndG
        have nG2 := List.nodup_append.1 nG1.2.1
        have aF0 : ak ∉ F0 := fun q => nda.1 (by rw [hG]; simp [q])
        have aG3 : ak ∉ G3 := fun q => nda.1 (by rw [hG]; simp [q])
        have hcall := ihk i hlt SB c F0 hcn nG2.1
        have haB : ak < SB.next := Nat.lt_of_lt_of_le hak sB.1
        have ltF0 := HN.lt _ hcn
        have ltG3 := HC.lt _ hc3
        obtain ⟨C, hC⟩ : ∃ C, C = c := ⟨_, rfl⟩
        rw [← hC] at hma hcall hcn
        rw [hC] at hcall
        obtain ⟨c0, c1, c2, c3, c4, c5, c6, c7, c8, rfl⟩ := nine hc9
        conv => whnf
        refine ⟨by omega, by omega, ?_⟩
        conv => whnf
        rw [hC] at hma
        refine ⟨_, cells_of_mem hma, partF_true hld ?_⟩
        conv => whnf
        refine CallQ.mono hcall ?_
        rintro r S9 ⟨rfl, hsp⟩
        have hma9 : S9.mem ak = _ := (hsp.2 ak haB aF0).trans hma
        conv => whnf
        refine ⟨by omega, by omega, ?_⟩
        conv => whnf
        refine ⟨_, _, cells_of_mem hma9, if_pos ⟨rfl, rfl, by show 0 + i * 9 + 9 ≤ _; simp; omega⟩, ?_⟩
        conv => whnf
        have hset : setsA (pre ++ ([c0, c1, c2, c3, c4, c5, c6, c7, c8] ++ suf')) (0 + i * 9) Z9 = (pre ++ Z9) ++ suf' := by
          rw [Nat.zero_add, ← hpre, setsA_mid Z9 pre [c0, c1, c2, c3, c4, c5, c6, c7, c8] suf' rfl]; simp
        refine ⟨m - 1, i + 1, by omega, ⟨by omega, ⟨Nat.le_trans sB.1 hsp.1, fun j h1 h2 => ?_⟩, pre ++ Z9, suf', G1 ++ F0, G3, ?_, by simp [Z9]; omega, by rw [hG]; simp, ?_⟩, ⟨rfl, rfl, ?_, trivial⟩⟩
        · have hja : j ≠ ak := fun e => h2 (by simp [e])
          rw [set_ne hja, hsp.2 j (Nat.lt_of_lt_of_le h1 sB.1) (fun q => h2 (by rw [hG]; simp [q]))]
          exact sB.2 j h1 h2
        · rw [mem_set]
          exact congrArg (fun l => some (Blk.cells l)) hset
        · refine HC.frame (S := SB) (by show SB.next ≤ S9.next; exact hsp.1) _ hc3 fun j hj => ?_
          have hja : j ≠ ak := fun e => aG3 (by rw [← e]; exact hj)
          rw [set_ne hja, hsp.2 j (ltG3 j hj) (fun q => nG2.2.2 j q j hj rfl)]
        · rw [wrap_i64 (by omega) (by omega)]; try rfl
      conv => whnf

      have frz : ∀ j ∈ Fd, SB.mem j = S.mem j := fun j hj => sB.2 j (ltd j hj) (by intro q; first | exact dbd j hj q | (rcases List.mem_append.1 q with q | q; exact dbd j hj q; exact dkd j hj q))
      subst hFd
      have nda := List.nodup_cons.1 ndd
      refine CodeQ.loop (fun (i : Nat) => pat 55 [(1, .cptr [.int .i64 kind, .int .u64 n, .bool neg, .str dg, .int .i64 ex, .str tx, .hnd bb 0 bs.length 1, .hnd ak 0 keys.length 9, .hnd ad 0 kids.length 9] 0), (39, .int .i64 (kids.length : Nat)), (40, .int .i64 i)])
        (fun m i S1 => i + m = kids.length ∧ Sp (([bb] ++ (ak :: Gk)) ++ (ad :: Gd)) S S1 ∧ ∃ pre suf G1 G2, S1.mem ad = some (.cells (pre ++ suf)) ∧ pre.length = i * 9 ∧ Gd = G1 ++ G2 ∧ HC S1 (kids.drop i) suf G2) ?_ kids.length 0 _ _
        ⟨by omega, ⟨sB.1, fun j h1 h2 => sB.2 j h1 (fun q => h2 (List.mem_append_left _ q))⟩, [], cd, [], Gd, by rw [frz ad (by simp)]; simpa using hmd, by simp, by simp, by simpa using HC.frame sB.1 kids hcd (fun j hj => frz j (by simp [hj]))⟩ ⟨rfl, rfl, rfl, trivial⟩
      rintro m i SC d ⟨hi, sC, pre, suf, G1, G2, hma, hpre, hG, hcc⟩
      conv => whnf
      refine br (fun h => ?on_14) (fun h => ?off_14)
      case on_14 =>
        have hlt : i < kids.length := by omega
        rw [List.drop_eq_getElem_cons hlt] at hcc
        simp only [HC] at hcc
        obtain ⟨c, suf', F0, G3, rfl, rfl, hcn, hc3⟩ := hcc
        have hc9 := (hn_cells hcn).1
        have hld := ld_mid (suf := suf') hpre hc9
        have ndG := nda.2
        rw [hG] at ndG
        have nG1 := List.nodup_append.1 ndG
        have nG2 := List.nodup_append.1 nG1.2.1
        have aF0 : ad ∉ F0 := fun q => nda.1 (by rw [hG]; simp [q])
        have aG3 : ad ∉ G3 := fun q => nda.1 (by rw [hG]; simp [q])
        have hcall := ihd i hlt SC c F0 hcn nG2.1
        have haB : ad < SC.next := Nat.lt_of_lt_of_le had sC.1
        have ltF0 := HN.lt _ hcn
        have ltG3 := HC.lt _ hc3
        obtain ⟨C, hC⟩ : ∃ C, C = c := ⟨_, rfl⟩
        rw [← hC] at hma hcall hcn
        rw [hC] at hcall
        obtain ⟨c0, c1, c2, c3, c4, c5, c6, c7, c8, rfl⟩ := nine hc9
        conv => whnf
        refine ⟨by omega, by omega, ?_⟩
        conv => whnf
        rw [hC] at hma
        refine ⟨_, cells_of_mem hma, partF_true hld ?_⟩
        conv => whnf
        refine CallQ.mono hcall ?_
        rintro r S9 ⟨rfl, hsp⟩
        have hma9 : S9.mem ad = _ := (hsp.2 ad haB aF0).trans hma
        conv => whnf
        refine ⟨by omega, by omega, ?_⟩
        conv => whnf
        refine ⟨_, _, cells_of_mem hma9, if_pos ⟨rfl, rfl, by show 0 + i * 9 + 9 ≤ _; simp; omega⟩, ?_⟩
        conv => whnf
        have hset : setsA (pre ++ ([c0, c1, c2, c3, c4, c5, c6, c7, c8] ++ suf')) (0 + i * 9) Z9 = (pre ++ Z9) ++ suf' := by
          rw [Nat.zero_add, ← hpre, setsA_mid Z9 pre [c0, c1, c2, c3, c4, c5, c6, c7, c8] suf' rfl]; simp
        refine ⟨m - 1, i + 1, by omega, ⟨by omega, ⟨Nat.le_trans sC.1 hsp.1, fun j h1 h2 => ?_⟩, pre ++ Z9, suf', G1 ++ F0, G3, ?_, by simp [Z9]; omega, by rw [hG]; simp, ?_⟩, ⟨rfl, rfl, ?_, trivial⟩⟩
        · have hja : j ≠ ad := fun e => h2 (by simp [e])
          rw [set_ne hja, hsp.2 j (Nat.lt_of_lt_of_le h1 sC.1) (fun q => h2 (by rw [hG]; simp [q]))]
          exact sC.2 j h1 h2
        · rw [mem_set]
          exact congrArg (fun l => some (Blk.cells l)) hset
        · refine HC.frame (S := SC) (by show SC.next ≤ S9.next; exact hsp.1) _ hc3 fun j hj => ?_
          have hja : j ≠ ad := fun e => aG3 (by rw [← e]; exact hj)
          rw [set_ne hja, hsp.2 j (ltG3 j hj) (fun q => nG2.2.2 j q j hj rfl)]
        · rw [wrap_i64 (by omega) (by omega)]; try rfl
      conv => whnf
      exact ⟨rfl, sC.1, fun j h1 h2 => sC.2 j h1 (fun q => h2 (by simpa [or_assoc] using q))⟩
end Go.Proofs.YtmkmakokgfigoaaDoor
