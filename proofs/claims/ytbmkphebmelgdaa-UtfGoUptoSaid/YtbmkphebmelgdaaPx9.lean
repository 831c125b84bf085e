-- printed by fprint.py, a program of this session, out of the translation. Not trusted: Lean checks it.
import Derived.Test.YtbmkphebmelgdaaPx0
import Derived.Test.YtbmkphebmelgdaaPx5
import Derived.Test.YtbmkphebmelgdaaPx6
namespace Go.Proofs.Ytbmkphebmelgdaa.P
open Go.RowKit Go.Proofs.YtbmkphebmelgdaaW.PrintWords Go.Proofs.YtbmkphebmelgdaaW.PrintLast Go.Proofs.YtbmkphebmelgdaaW.PrintMore
attribute [local go_sem] max2_int min2_int max_two min_two max_three min_three max_four min_four   -- for this text's walks alone
set_option linter.unusedVariables false
set_option linter.unusedSimpArgs false

/-! ### gantlinelaw04_UtfGo: function 6 -/
/-- Does the replacement character stand there by its own three bytes? -/
def gantlinelaw04_UtfGo.own (x : List Int) (p : Nat) : Prop := p + 3 ≤ x.length ∧ rd x (p : Int) = 239 ∧ rd x ((p : Int) + 1) = 191 ∧ rd x ((p : Int) + 2) = 189
instance (x : List Int) (p : Nat) : Decidable (gantlinelaw04_UtfGo.own x p) := inferInstanceAs (Decidable (_ ∧ _ ∧ _ ∧ _))
/-- The law's range over the bytes as a string, from a place on; nothing where it would tell false. -/
def gantlinelaw04_UtfGo.l0 : Nat → List Int → List Int → Int → Int → ByteArray → Nat → Nat → Option Bool
  | 0, _, _, _, _, _, _, _ => none
  | k + 1, x, L, why, fat, s, p, n => if p < s.size then
      (if (Utf8.decode s p).1 = 65533 ∧ ¬ gantlinelaw04_UtfGo.own x p then (if why = 6 ∧ (p : Int) ≤ fat then gantlinelaw04_alive.f k else none)
       else if (n : Int) < 4611686018427387904 ∧ ((why = 0 ∧ fat = 0) → (n < L.length ∧ rd L n = ((Utf8.decode s p).1 : Int))) then gantlinelaw04_UtfGo.l0 k x L why fat s (p + (Utf8.decode s p).2) (n + 1) else none)
    else if why = 0 ∧ fat = 0 ∧ n = L.length then gantlinelaw04_alive.f k else none
def gantlinelaw04_UtfGo.f (k : Nat) (l0 : List Int) : Option Bool := (utf_Runes.f k l0).bind fun t => if t.1.length < 9223372036854775807 ∧ l0.length < 4611686018427387904 then gantlinelaw04_UtfGo.l0 k l0 t.1 t.2.1 t.2.2 (strOfNums l0) 0 0 else none
theorem gantlinelaw04_UtfGo.mono_l : ∀ k y0 y1 y2 y3 y4 y5 y6, LeO (gantlinelaw04_UtfGo.l0 k y0 y1 y2 y3 y4 y5 y6) (gantlinelaw04_UtfGo.l0 (k + 1) y0 y1 y2 y3 y4 y5 y6)
  | 0, _, _, _, _, _, _, _ => fun r h => by simp [gantlinelaw04_UtfGo.l0] at h
  | k + 1, y0, y1, y2, y3, y4, y5, y6 => by
    have ih0 := gantlinelaw04_UtfGo.mono_l k
    unfold gantlinelaw04_UtfGo.l0
    repeat' first
      | (with_reducible exact ih0 _ _ _ _ _ _ _)
      | (with_reducible exact gantlinelaw04_alive.mono _)
      | (with_reducible exact LeO.refl _)
      | (with_reducible refine LeO.ite ?_ ?_)
theorem gantlinelaw04_UtfGo.mono : ∀ a0 k, LeO (gantlinelaw04_UtfGo.f k a0) (gantlinelaw04_UtfGo.f (k + 1) a0) := fun a0 k => by
  unfold gantlinelaw04_UtfGo.f
  refine LeO.bind (utf_Runes.mono _ _) (fun _ => ?_)
  refine LeO.ite (gantlinelaw04_UtfGo.mono_l k _ _ _ _ _ _ _) (LeO.refl _)
set_option maxHeartbeats 8000000 in
set_option maxRecDepth 100000 in
theorem gantlinelaw04_UtfGo.calls (k : Nat) (A0 : Option Addr) (c0 : Nat) (l0 : List Int) (r : Bool) (w : World) (hr0 : Kd.C (Kd.int .u8) w A0 l0.length l0) (hc0 : l0.length ≤ c0) (h : gantlinelaw04_UtfGo.f k l0 = some r) :
    Calls Try.prog 6 #[.slice A0 l0.length c0] w fun e w' => e = .returned (.bool r) ∧ Below w.heap.size w w' := by
  have hu33 := Try.underlying33
  have HR0 := Aside0.mk hr0
  have HC0 := Aside0.mk hc0
  have hlen : (strOfNums l0).size = l0.length := by simp [strOfNums, ByteArray.size]
  have HLEN := Aside0.mk hlen
  clear hr0 hc0 hlen
  have HB := Aside0.mk (Below.refl w.heap.size w)
  unfold gantlinelaw04_UtfGo.f at h
  obtain ⟨⟨L, why, fat⟩, hq, h⟩ := Option.bind_eq_some_iff.1 h
  by_cases hLL : L.length < 9223372036854775807 ∧ l0.length < 4611686018427387904
  · rw [if_pos hLL] at h
    have HQ := Aside0.mk hq
    have H' : Aside0 (gantlinelaw04_UtfGo.l0 k l0 L why fat (strOfNums l0) 0 0 = some r) := ⟨h⟩
    have HLL := Aside0.mk hLL
    clear h hq hLL
    go_enter Try.func6, Try.ntmps6
    go_wp2_with (first | (go_at_call 14; (with_reducible refine (utf_Runes.calls k A0 c0 l0 L why fat _ HR0.out HC0.out HQ.out).mono ?_); rintro e w1 ⟨v1, rfl, ho, hb⟩; obtain ⟨A2, c2, rfl, hl2, hC2⟩ := Kd.R_reads ho; have HB1 := Aside0.mk hb; have HC2 := Aside0.mk hC2; have HM2 := Aside0.mk hl2; clear ho hb hl2 hC2) | ((with_reducible refine gate_dst (N := 4) rfl ?_); refine box_event ?hg (N := 4) ?hd (cs := #[.int .i64 0, .int .i64 0]) (t := 33) ?hr ?_; (case hd => rfl); (case hg => rfl); (case hr => first | (go_simp; done) | (go_simp; rfl)); intro gb hg w2 hbox hb; have BK := Aside0.mk hbox; have GE := Aside0.mk (show w1.heap.size ≤ gb by rw [hg]; exact Nat.le_refl _); have HB2 := Aside0.mk hb; have hcz0 : w2.cell? ⟨gb, 0, none⟩ = some (.int .i64 0) := (blk_cell BK.out 0).trans rfl; have hcz1 : w2.cell? ⟨gb, 1, none⟩ = some (.int .i64 0) := (blk_cell BK.out 1).trans rfl; have hfz0 := blk_frozen BK.out 0; have hfz1 := blk_frozen BK.out 1; clear hb hbox hg))
    clear hcz0 hcz1 hfz0 hfz1
    have BK3 := Aside0.mk (show ((w2.setCell ⟨gb, 0, none⟩ (.int .i64 why)).setCell ⟨gb, 1, none⟩ (.int .i64 fat)).heap[gb]? = some (.cells #[.int .i64 why, .int .i64 fat] 33 (0, 0)) by refine blk_put (cs := #[.int .i64 why, .int .i64 0]) ?_ 1 _ rfl; refine blk_put (cs := #[.int .i64 0, .int .i64 0]) ?_ 0 _ rfl; exact BK.out)
    have HB3 := Aside0.mk (show Below w1.heap.size w1 ((w2.setCell ⟨gb, 0, none⟩ (.int .i64 why)).setCell ⟨gb, 1, none⟩ (.int .i64 fat)) from below_set (below_set HB2.out GE.out) GE.out)
    generalize (w2.setCell ⟨gb, 0, none⟩ (.int .i64 why)).setCell ⟨gb, 1, none⟩ (.int .i64 fat) = w3 at BK3 HB3 ⊢
    clear BK HB2
    have hcv := Kd.C_string (P := Try.prog) (w := w3) (A := A0) (c := c0) Try.underlying22 Try.underlying5 Try.underlying9 (Kd.C_below HR0.out (below_step HB1.out HB3.out))
    rw [hcv]
    go_simp
    go_wp2
    clear hcv
    obtain ⟨gi, hgi⟩ : ∃ g, g = w3.heap.size := ⟨_, rfl⟩
    have HI0 := Aside0.mk (show (w3.iter (strOfNums l0) 0).heap[gi]? = some (.stringIter (strOfNums l0) 0) by rw [hgi]; exact w3.iter_heap _ 0)
    have BK0 := Aside0.mk (show (w3.iter (strOfNums l0) 0).heap[gb]? = some (.cells #[.int .i64 why, .int .i64 fat] 33 (0, 0)) from blk_alloc BK3.out _)
    have HB0 := Aside0.mk (show Below w1.heap.size w1 (w3.iter (strOfNums l0) 0) from below_alloc HB3.out _)
    have HNE := Aside0.mk (show gb ≠ gi by rw [hgi]; exact Nat.ne_of_lt (blk_lt BK3.out))
    have GI := Aside0.mk (show w1.heap.size ≤ gi by rw [hgi]; exact HB3.out.size)
    rw [← hgi]
    generalize w3.iter (strOfNums l0) 0 = w4 at HI0 BK0 HB0 ⊢
    obtain ⟨sx, hsx⟩ : ∃ s, s = strOfNums l0 := ⟨_, rfl⟩
    rw [← hsx] at H' HI0 HLEN
    clear hsx hgi BK3 HB3
    go_loopg [5] k (fun kq v5 w' => ∃ p n : Nat, v5 = .int .i64 n ∧ Aside0 (gantlinelaw04_UtfGo.l0 kq l0 L why fat sx p n = some r) ∧ Aside0 (kq ≤ k) ∧ Aside0 (w'.heap[gi]? = some (.stringIter sx p)) ∧ Aside0 (w'.heap[gb]? = some (.cells #[.int .i64 why, .int .i64 fat] 33 (0, 0))) ∧ Aside0 (Below w1.heap.size w1 w'))
    case atStart => exact ⟨0, 0, rfl, H', ⟨Nat.le_refl _⟩, HI0, BK0, HB0⟩
    case round =>
      clear H' HI0 BK0 HB0
      obtain ⟨p, n, rfl, HA, HK1, HI, BK, HB⟩ := hrel
      have d3 : ∀ b, decide (why = 0) = b → (why == 0) = b := fun b hb => by rw [← hb]; by_cases h : why = 0 <;> simp [h]
      have d4 : ∀ b, decide (fat = 0) = b → (fat == 0) = b := fun b hb => by rw [← hb]; by_cases h : fat = 0 <;> simp [h]
      cases gk with
      | zero => exact absurd HA.out (by simp [gantlinelaw04_UtfGo.l0])
      | succ k1 =>
        have H := HA.out
        clear HA
        simp only [gantlinelaw04_UtfGo.l0] at H
        by_cases hp : p < sx.size
        · rw [if_pos hp] at H
          have hnx : ∀ ty, (Instr.next (.pointer (some ⟨gi, 0, none⟩)) true ty).run Try.prog wr = _ := fun ty => Lib.run_next_any_at wr gi sx p ty HI.out hp
          have HI2 := Aside0.mk (Lib.iterAt_heap wr gi sx p (p + (Utf8.decode sx p).2) HI.out)
          have BK2 := Aside0.mk ((Lib.iterAt_other wr gi gb sx (p + (Utf8.decode sx p).2) HNE.out).trans BK.out)
          have HB2 := Aside0.mk (Lib.below_iterAt HB.out GI.out sx (p + (Utf8.decode sx p).2))
          generalize hwi : wr.iterAt gi sx (p + (Utf8.decode sx p).2) = wi at hnx HI2 BK2 HB2
          clear hwi HI BK HB
          have hpl : p < l0.length := by have := HLEN.out; omega
          have hLLb := HLL.out.2
          have hw1 : wrap64 ((p : Int) + 1) = (p : Int) + 1 := by unfold wrap64; omega
          have hw2 : wrap64 ((p : Int) + 2) = (p : Int) + 2 := by unfold wrap64; omega
          have hw3 : wrap64 ((p : Int) + 3) = (p : Int) + 3 := by unfold wrap64; omega
          have HRI := Aside0.mk (Kd.C_below HR0.out (below_step HB1.out HB2.out))
          have hcz0 : wi.cell? ⟨gb, 0, none⟩ = some (.int .i64 why) := (blk_cell BK2.out 0).trans rfl
          have hcz1 : wi.cell? ⟨gb, 1, none⟩ = some (.int .i64 fat) := (blk_cell BK2.out 1).trans rfl
          obtain ⟨ad, rfl, hcell0⟩ := ReadsOf.at_ (Kd.reads_of_C (d := (0 : Int)) HRI.out) (p : Int) (by omega) (by omega)
          simp only [Int.toNat_natCast] at hcell0
          by_cases hd : (Utf8.decode sx p).1 = 65533 ∧ ¬ gantlinelaw04_UtfGo.own l0 p
          · rw [if_pos hd] at H
            by_cases hy : why = 6 ∧ (p : Int) ≤ fat
            · rw [if_pos hy] at H
              obtain ⟨hd1, hd2⟩ := hd
              obtain ⟨rfl, hy2⟩ := hy
              have HA := Aside0.mk H
              clear H
              have d1 : ((((Utf8.decode sx p).1 : Nat) : Int) == 65533) = true := by simp [hd1]
              have d7 : decide ((p : Int) ≤ fat) = true := decide_eq_true hy2
              by_cases q3 : p + 3 ≤ l0.length
              · have dl : decide ((p : Int) + 3 ≤ (l0.length : Int)) = true := decide_eq_true (by omega)
                obtain ⟨ad1, e1, hcell1⟩ := ReadsOf.at_ (Kd.reads_of_C (d := (0 : Int)) HRI.out) ((p : Int) + 1) (by omega) (by omega)
                obtain rfl := Option.some.inj e1
                replace hcell1 : wi.cell? ⟨ad.block, ad.off + (p + 1), none⟩ = some (.int .u8 (rdOf 0 l0 ((p : Int) + 1))) := by rw [show ((p : Int) + 1).toNat = p + 1 by omega] at hcell1; exact hcell1
                obtain ⟨ad2, e2, hcell2⟩ := ReadsOf.at_ (Kd.reads_of_C (d := (0 : Int)) HRI.out) ((p : Int) + 2) (by omega) (by omega)
                obtain rfl := Option.some.inj e2
                replace hcell2 : wi.cell? ⟨ad.block, ad.off + (p + 2), none⟩ = some (.int .u8 (rdOf 0 l0 ((p : Int) + 2))) := by rw [show ((p : Int) + 2).toNat = p + 2 by omega] at hcell2; exact hcell2
                have b1_ : 0 ≤ (p : Int) + 1 ∧ (p : Int) + 1 < (l0.length : Int) := by omega
                have b2_ : 0 ≤ (p : Int) + 2 ∧ (p : Int) + 2 < (l0.length : Int) := by omega
                by_cases x0 : rdOf 0 l0 (p : Int) = 239
                · have f0 : (rdOf 0 l0 (p : Int) == 239) = true := by simpa using x0
                  by_cases x1 : rdOf 0 l0 ((p : Int) + 1) = 191
                  · have f1 : (rdOf 0 l0 ((p : Int) + 1) == 191) = true := by simpa using x1
                    by_cases x2 : rdOf 0 l0 ((p : Int) + 2) = 189
                    · exact absurd ⟨q3, x0, x1, x2⟩ hd2
                    · have f2 : (rdOf 0 l0 ((p : Int) + 2) == 189) = false := by simpa using x2
                      have f2n : (rdOf 0 l0 ((p : Int) + 2) != 189) = true := by simpa using x2
                      clear hd2 x0 x1 x2 hd1 hy2
                      go_wp2_with (first | (go_at_call 13; (with_reducible refine (gantlinelaw04_alive.calls k1 r _ HA.out).mono ?_); rintro e w9 ⟨rfl, hb9⟩; have HB9 := Aside0.mk (below_step HB2.out hb9); clear hb9))
                      go_ret
                      exact ⟨rfl, below_step HB1.out HB9.out⟩
                  · have f1 : (rdOf 0 l0 ((p : Int) + 1) == 191) = false := by simpa using x1
                    clear hd2 x0 x1 q3 hd1 hy2
                    go_wp2_with (first | (go_at_call 13; (with_reducible refine (gantlinelaw04_alive.calls k1 r _ HA.out).mono ?_); rintro e w9 ⟨rfl, hb9⟩; have HB9 := Aside0.mk (below_step HB2.out hb9); clear hb9))
                    go_ret
                    exact ⟨rfl, below_step HB1.out HB9.out⟩
                · have f0 : (rdOf 0 l0 (p : Int) == 239) = false := by simpa using x0
                  clear hd2 x0 q3 hd1 hy2
                  go_wp2_with (first | (go_at_call 13; (with_reducible refine (gantlinelaw04_alive.calls k1 r _ HA.out).mono ?_); rintro e w9 ⟨rfl, hb9⟩; have HB9 := Aside0.mk (below_step HB2.out hb9); clear hb9))
                  go_ret
                  exact ⟨rfl, below_step HB1.out HB9.out⟩
              · have dl : decide ((p : Int) + 3 ≤ (l0.length : Int)) = false := decide_eq_false (by omega)
                clear hd2 q3 hd1 hy2
                go_wp2_with (first | (go_at_call 13; (with_reducible refine (gantlinelaw04_alive.calls k1 r _ HA.out).mono ?_); rintro e w9 ⟨rfl, hb9⟩; have HB9 := Aside0.mk (below_step HB2.out hb9); clear hb9))
                go_ret
                exact ⟨rfl, below_step HB1.out HB9.out⟩
            · rw [if_neg hy] at H
              cases H
          · rw [if_neg hd] at H
            by_cases hc : (n : Int) < 4611686018427387904 ∧ ((why = 0 ∧ fat = 0) → (n < L.length ∧ rd L n = ((Utf8.decode sx p).1 : Int)))
            · rw [if_pos hc] at H
              have HA := Aside0.mk H
              clear H
              have hn1 : wrap64 ((n : Int) + 1) = ((n + 1 : Nat) : Int) := by unfold wrap64; omega
              by_cases hr : (Utf8.decode sx p).1 = 65533
              · obtain ⟨q3, x0, x1, x2⟩ : gantlinelaw04_UtfGo.own l0 p := Decidable.byContradiction (fun h => hd ⟨hr, h⟩)
                have d1 : ((((Utf8.decode sx p).1 : Nat) : Int) == 65533) = true := by simp [hr]
                have dl : decide ((p : Int) + 3 ≤ (l0.length : Int)) = true := decide_eq_true (by omega)
                obtain ⟨ad1, e1, hcell1⟩ := ReadsOf.at_ (Kd.reads_of_C (d := (0 : Int)) HRI.out) ((p : Int) + 1) (by omega) (by omega)
                obtain rfl := Option.some.inj e1
                replace hcell1 : wi.cell? ⟨ad.block, ad.off + (p + 1), none⟩ = some (.int .u8 (rdOf 0 l0 ((p : Int) + 1))) := by rw [show ((p : Int) + 1).toNat = p + 1 by omega] at hcell1; exact hcell1
                obtain ⟨ad2, e2, hcell2⟩ := ReadsOf.at_ (Kd.reads_of_C (d := (0 : Int)) HRI.out) ((p : Int) + 2) (by omega) (by omega)
                obtain rfl := Option.some.inj e2
                replace hcell2 : wi.cell? ⟨ad.block, ad.off + (p + 2), none⟩ = some (.int .u8 (rdOf 0 l0 ((p : Int) + 2))) := by rw [show ((p : Int) + 2).toNat = p + 2 by omega] at hcell2; exact hcell2
                have b1_ : 0 ≤ (p : Int) + 1 ∧ (p : Int) + 1 < (l0.length : Int) := by omega
                have b2_ : 0 ≤ (p : Int) + 2 ∧ (p : Int) + 2 < (l0.length : Int) := by omega
                have f0 : (rdOf 0 l0 (p : Int) == 239) = true := by have h_ : rdOf 0 l0 (p : Int) = 239 := x0; simpa using h_
                have f1 : (rdOf 0 l0 ((p : Int) + 1) == 191) = true := by have h_ : rdOf 0 l0 ((p : Int) + 1) = 191 := x1; simpa using h_
                have f2 : (rdOf 0 l0 ((p : Int) + 2) == 189) = true := by have h_ : rdOf 0 l0 ((p : Int) + 2) = 189 := x2; simpa using h_
                clear x0 x1 x2 q3 hr
                by_cases hw : why = 0
                · have z3 := d3 true (decide_eq_true hw)
                  by_cases hf : fat = 0
                  · have z4 := d4 true (decide_eq_true hf)
                    obtain ⟨hnL, hLr⟩ := hc.2 ⟨hw, hf⟩
                    obtain ⟨adL, rfl, hcellL⟩ := ReadsOf.at_ (Kd.reads_of_C (d := (0 : Int)) (Kd.C_below HC2.out HB2.out)) (n : Int) (by omega) (by omega)
                    simp only [Int.toNat_natCast] at hcellL
                    have dn : decide ((L.length : Int) ≤ (n : Int)) = false := decide_eq_false (by omega)
                    have dL : (rdOf 0 L (n : Int) != (((Utf8.decode sx p).1 : Nat) : Int)) = false := by have h_ : rdOf 0 L (n : Int) = _ := hLr; simp [h_]
                    subst hw hf
                    clear hc hLr hd z3 z4
                    go_wp2
                    go_roundg k1
                    case measure => have := HK1.out; omega
                    case rel => exact ⟨_, n + 1, (by first | rfl | (rw [hn1]) | (simp; omega)), HA, ⟨by have := HK1.out; omega⟩, HI2, BK2, HB2⟩
                  · have z4 := d4 false (decide_eq_false hf)
                    subst hw
                    clear hc hd z3
                    go_wp2
                    go_roundg k1
                    case measure => have := HK1.out; omega
                    case rel => exact ⟨_, n + 1, (by first | rfl | (rw [hn1]) | (simp; omega)), HA, ⟨by have := HK1.out; omega⟩, HI2, BK2, HB2⟩
                · have z3 := d3 false (decide_eq_false hw)
                  clear hc hd
                  go_wp2
                  go_roundg k1
                  case measure => have := HK1.out; omega
                  case rel => exact ⟨_, n + 1, (by first | rfl | (rw [hn1]) | (simp; omega)), HA, ⟨by have := HK1.out; omega⟩, HI2, BK2, HB2⟩
              · have d1 : ((((Utf8.decode sx p).1 : Nat) : Int) == 65533) = false := by simp; omega
                clear hr
                by_cases hw : why = 0
                · have z3 := d3 true (decide_eq_true hw)
                  by_cases hf : fat = 0
                  · have z4 := d4 true (decide_eq_true hf)
                    obtain ⟨hnL, hLr⟩ := hc.2 ⟨hw, hf⟩
                    obtain ⟨adL, rfl, hcellL⟩ := ReadsOf.at_ (Kd.reads_of_C (d := (0 : Int)) (Kd.C_below HC2.out HB2.out)) (n : Int) (by omega) (by omega)
                    simp only [Int.toNat_natCast] at hcellL
                    have dn : decide ((L.length : Int) ≤ (n : Int)) = false := decide_eq_false (by omega)
                    have dL : (rdOf 0 L (n : Int) != (((Utf8.decode sx p).1 : Nat) : Int)) = false := by have h_ : rdOf 0 L (n : Int) = _ := hLr; simp [h_]
                    subst hw hf
                    clear hc hLr hd z3 z4
                    go_wp2
                    go_roundg k1
                    case measure => have := HK1.out; omega
                    case rel => exact ⟨_, n + 1, (by first | rfl | (rw [hn1]) | (simp; omega)), HA, ⟨by have := HK1.out; omega⟩, HI2, BK2, HB2⟩
                  · have z4 := d4 false (decide_eq_false hf)
                    subst hw
                    clear hc hd z3
                    go_wp2
                    go_roundg k1
                    case measure => have := HK1.out; omega
                    case rel => exact ⟨_, n + 1, (by first | rfl | (rw [hn1]) | (simp; omega)), HA, ⟨by have := HK1.out; omega⟩, HI2, BK2, HB2⟩
                · have z3 := d3 false (decide_eq_false hw)
                  clear hc hd
                  go_wp2
                  go_roundg k1
                  case measure => have := HK1.out; omega
                  case rel => exact ⟨_, n + 1, (by first | rfl | (rw [hn1]) | (simp; omega)), HA, ⟨by have := HK1.out; omega⟩, HI2, BK2, HB2⟩
            · rw [if_neg hc] at H
              cases H
        · rw [if_neg hp] at H
          have hnx : ∀ ty, (Instr.next (.pointer (some ⟨gi, 0, none⟩)) true ty).run Try.prog wr = _ := fun ty => Lib.run_next_end_at wr gi sx p ty HI.out hp
          have hcz0 : wr.cell? ⟨gb, 0, none⟩ = some (.int .i64 why) := (blk_cell BK.out 0).trans rfl
          have hcz1 : wr.cell? ⟨gb, 1, none⟩ = some (.int .i64 fat) := (blk_cell BK.out 1).trans rfl
          by_cases hy : why = 0 ∧ fat = 0 ∧ n = L.length
          · rw [if_pos hy] at H
            have HA := Aside0.mk H
            obtain ⟨rfl, rfl, rfl⟩ := hy
            clear H
            go_wp2_with (first | (go_at_call 13; (with_reducible refine (gantlinelaw04_alive.calls k1 r _ HA.out).mono ?_); rintro e w9 ⟨rfl, hb9⟩; have HB9 := Aside0.mk (below_step HB.out hb9); clear hb9))
            go_ret
            exact ⟨rfl, below_step HB1.out HB9.out⟩
          · rw [if_neg hy] at H
            cases H
  · rw [if_neg hLL] at h
    exact absurd h (by simp)

/-- THE ONE PURE STATEMENT of gantlinelaw04_UtfGo: yours. -/
def gantlinelaw04_UtfGo.Pure : Prop := ∀ (l0 : List Int), l0.length ≤ maxLen → l0.length * 1 ≤ 140737488351232 → (∀ x ∈ l0, (Lit.int .u8 x).wf = true) → ∃ k, gantlinelaw04_UtfGo.f k l0 = some true
theorem gantlinelaw04_UtfGo.walk (P : gantlinelaw04_UtfGo.Pure) (a0 : Option Addr) (len0 cap0 : Nat) (z0 : List Int) (w : World) (w0 : (a0 = none ∧ len0 = 0 ∧ cap0 = 0 ∧ z0 = []) ∨ ∃ x, a0 = some x ∧ len0 ≤ cap0 ∧ cap0 ≤ maxLen ∧ z0.length = cap0 ∧ (∀ i, i < z0.length → w.cell? (x.add i) = some (.int .u8 (z0.getD i 0))) ∧ ∀ n ∈ z0, (Lit.int .u8 n).wf = true) (y0 : len0 * 1 ≤ 140737488351232) :
    Calls Try.prog 6 #[.slice a0 len0 cap0] w fun e w' => e = .returned (.bool true) ∧ Below w.heap.size w w' := by
  obtain ⟨l0, rfl, hr0, hm0, hw0, hc0⟩ := ReadsInt.ofRowC w0
  obtain ⟨k, h⟩ := P l0 hm0 y0 hw0
  refine (gantlinelaw04_UtfGo.calls k _ _ l0 true w (Kd.C_of_reads (d := (0 : Int)) (h1 := fun _ => rfl) hr0) hc0 h).mono ?_
  rintro e w' ⟨rfl, hd⟩
  exact ⟨rfl, hd⟩

/-- THE ONE PURE STATEMENT of gantlinelaw04_UtfGo: yours. -/
def gantlinelaw04_UtfGo.PureU : Prop := ∀ (l0 : List Int), l0.length ≤ maxLen → l0.length * 1 ≤ 140737488351232 → (∀ x ∈ l0, (Lit.int .u8 x).wf = true) → l0.length ≤ 1048576 → ∃ k, gantlinelaw04_UtfGo.f k l0 = some true
theorem gantlinelaw04_UtfGo.walkU (P : gantlinelaw04_UtfGo.PureU) (a0 : Option Addr) (len0 cap0 : Nat) (z0 : List Int) (w : World) (w0 : (a0 = none ∧ len0 = 0 ∧ cap0 = 0 ∧ z0 = []) ∨ ∃ x, a0 = some x ∧ len0 ≤ cap0 ∧ cap0 ≤ maxLen ∧ z0.length = cap0 ∧ (∀ i, i < z0.length → w.cell? (x.add i) = some (.int .u8 (z0.getD i 0))) ∧ ∀ n ∈ z0, (Lit.int .u8 n).wf = true) (y0 : len0 * 1 ≤ 140737488351232) (hU : len0 ≤ 1048576) :
    Calls Try.prog 6 #[.slice a0 len0 cap0] w fun e w' => e = .returned (.bool true) ∧ Below w.heap.size w w' := by
  obtain ⟨l0, rfl, hr0, hm0, hw0, hc0⟩ := ReadsInt.ofRowC w0
  obtain ⟨k, h⟩ := P l0 hm0 y0 hw0 hU
  refine (gantlinelaw04_UtfGo.calls k _ _ l0 true w (Kd.C_of_reads (d := (0 : Int)) (h1 := fun _ => rfl) hr0) hc0 h).mono ?_
  rintro e w' ⟨rfl, hd⟩
  exact ⟨rfl, hd⟩

/-! ### gantlineref04_length: function 30 -/
mutual
def gantlineref04_length.j0 : Nat → Int → Bool → Option (Int)
  | 0, _, _ => none
  | k + 1, x0, x6 => if x6 = true then (some 2) else (if x0 ≥ 224 then (gantlineref04_length.j1 k x0 (decide (x0 ≤ 239))) else (gantlineref04_length.j1 k x0 false))
def gantlineref04_length.j1 : Nat → Int → Bool → Option (Int)
  | 0, _, _ => none
  | k + 1, x0, x13 => if x13 = true then (some 3) else (if x0 ≥ 240 then (if x0 ≤ 244 then (some 4) else (some 0)) else (some 0))
end
def gantlineref04_length.f (k : Nat) (a0 : Int) : Option (Int) := if a0 < 128 then (some 1) else (if a0 ≥ 194 then (gantlineref04_length.j0 k a0 (decide (a0 ≤ 223))) else (gantlineref04_length.j0 k a0 false))
theorem gantlineref04_length.mono_l : ∀ k, (∀ y0 y1, LeO (gantlineref04_length.j0 k y0 y1) (gantlineref04_length.j0 (k + 1) y0 y1)) ∧ (∀ y0 y1, LeO (gantlineref04_length.j1 k y0 y1) (gantlineref04_length.j1 (k + 1) y0 y1))
  | 0 => ⟨fun _ _ r h => by simp [gantlineref04_length.j0] at h, fun _ _ r h => by simp [gantlineref04_length.j1] at h⟩
  | k + 1 => by
    obtain ⟨ih0, ih1⟩ := gantlineref04_length.mono_l k
    refine ⟨?_, ?_⟩
    · intro y0 y1
      unfold gantlineref04_length.j0
      repeat' first
      | (with_reducible exact ih0 _ _)
      | (with_reducible exact ih1 _ _)
      | (with_reducible exact LeO.refl _)
      | (with_reducible exact LeO.none _)
      | (with_reducible refine LeO.ite ?_ ?_)
      | (with_reducible refine LeO.bind ?_ (fun _ => ?_))
      | exact ih0 _ _
      | exact ih1 _ _
      | exact LeO.none _
      | refine LeO.ite ?_ ?_
      | refine LeO.bind ?_ (fun _ => ?_)
    · intro y0 y1
      unfold gantlineref04_length.j1
      repeat' first
      | (with_reducible exact ih0 _ _)
      | (with_reducible exact ih1 _ _)
      | (with_reducible exact LeO.refl _)
      | (with_reducible exact LeO.none _)
      | (with_reducible refine LeO.ite ?_ ?_)
      | (with_reducible refine LeO.bind ?_ (fun _ => ?_))
      | exact ih0 _ _
      | exact ih1 _ _
      | exact LeO.none _
      | refine LeO.ite ?_ ?_
      | refine LeO.bind ?_ (fun _ => ?_)
theorem gantlineref04_length.mono : ∀ a0 k, LeO (gantlineref04_length.f k a0) (gantlineref04_length.f (k + 1) a0) := by
  intro a0 k
  obtain ⟨ih0, ih1⟩ := gantlineref04_length.mono_l k
  unfold gantlineref04_length.f
  repeat' first
      | (with_reducible exact ih0 _ _)
      | (with_reducible exact ih1 _ _)
      | (with_reducible exact LeO.refl _)
      | (with_reducible exact LeO.none _)
      | (with_reducible refine LeO.ite ?_ ?_)
      | (with_reducible refine LeO.bind ?_ (fun _ => ?_))
      | exact ih0 _ _
      | exact ih1 _ _
      | exact LeO.none _
      | refine LeO.ite ?_ ?_
      | refine LeO.bind ?_ (fun _ => ?_)
set_option maxHeartbeats 8000000 in
set_option maxRecDepth 100000 in
theorem gantlineref04_length.calls (k : Nat) (a0 : Int) (r : Int) (w : World) (h : gantlineref04_length.f k a0 = some r) :
    Calls Try.prog 30 #[.int .u8 a0] w fun e w' => e = .returned (.int .i64 r) ∧ Drawn0 w w' := by
  have H : (if a0 < 128 then (some 1) else (if a0 ≥ 194 then (gantlineref04_length.j0 k a0 (decide (a0 ≤ 223))) else (gantlineref04_length.j0 k a0 false))) = some r := h
  clear h
  by_cases c2 : a0 < 128
  · rw [if_pos c2] at H
    have c2b0 : decide (a0 < 128) = true := decide_eq_true c2
    clear c2
    obtain rfl := Option.some.inj H
    go_enter Try.func30, Try.ntmps30
    go_wp2
    go_ret
    exact ⟨by first | rfl | (simp; done) | (simp [*]; done), by repeat (first | exact Drawn0.refl _ | apply Drawn0.step)⟩
  · rw [if_neg c2] at H
    have c2b0 : decide (a0 < 128) = false := decide_eq_false c2
    clear c2
    have HC3 := Aside0.mk H
    clear H
    go_enter Try.func30, Try.ntmps30
    go_upto_region 3 with (fail)
    go_cut [6] (fun v6 wc => ∃ (kq : Nat) (x6_2 : Bool), v6 = .bool x6_2 ∧ Aside0 (gantlineref04_length.j0 kq a0 x6_2 = some r) ∧ Aside0 (kq ≤ k) ∧ Drawn0 w wc)
    case first =>
      have H := HC3.out
      clear HC3
      by_cases c4 : a0 ≥ 194
      · rw [if_pos c4] at H
        have c4b0 : decide (194 ≤ a0) = true := decide_eq_true c4
        clear c4
        (first | rw [c4b0] | (simp only [i64_w, i32_w]; rw [c4b0]) | skip)
        have H' := Aside0.mk H
        clear H
        go_wp2
        go_meet
        case rel => exact ⟨_, (decide (a0 ≤ 223)), (by first | rfl | (simp; done) | (simp [*]; done)), H', ⟨by first | omega | exact Nat.le_refl _⟩, by repeat (first | exact Drawn0.refl _ | apply Drawn0.step)⟩
      · rw [if_neg c4] at H
        have c4b0 : decide (194 ≤ a0) = false := decide_eq_false c4
        clear c4
        (first | rw [c4b0] | (simp only [i64_w, i32_w]; rw [c4b0]) | skip)
        have H' := Aside0.mk H
        clear H
        go_wp2
        go_meet
        case rel => exact ⟨_, (false), (by first | rfl | (simp; done) | (simp [*]; done)), H', ⟨by first | omega | exact Nat.le_refl _⟩, by repeat (first | exact Drawn0.refl _ | apply Drawn0.step)⟩
    case rest =>
      clear HC3
      try clear c2
      try clear c2b0
      try clear p2
      try clear c3
      try clear c4
      try clear c4b0
      obtain ⟨kq, x6_2, rfl, HA, HJ2, ⟨mc2, rfl⟩⟩ := hcut
      cases kq with
      | zero => exact absurd HA.out (by simp [gantlineref04_length.j0])
      | succ kj2 =>
        have H := HA.out
        clear HA
        simp only [gantlineref04_length.j0] at H
        by_cases c5 : x6_2 = true
        · subst c5
          have H1 : (some 2) = some r := by rw [if_pos rfl] at H; exact H
          clear H
          have H := H1
          clear H1
          obtain rfl := Option.some.inj H
          go_wp2
          go_ret
          exact ⟨by first | rfl | (simp; done) | (simp [*]; done), by repeat (first | exact Drawn0.refl _ | apply Drawn0.step)⟩
        · replace c5 := Bool.eq_false_iff.mpr c5
          subst c5
          have H1 : (if a0 ≥ 224 then (gantlineref04_length.j1 kj2 a0 (decide (a0 ≤ 239))) else (gantlineref04_length.j1 kj2 a0 false)) = some r := by rw [if_neg (show ¬ (false = true) by decide)] at H; exact H
          clear H
          have H := H1
          clear H1
          have HC6 := Aside0.mk H
          clear H
          go_upto_region 5 with (fail)
          go_cut [13] (fun v13 wc => ∃ (kq : Nat) (x13_5 : Bool), v13 = .bool x13_5 ∧ Aside0 (gantlineref04_length.j1 kq a0 x13_5 = some r) ∧ Aside0 (kq ≤ kj2) ∧ Drawn0 w wc)
          case first =>
            have H := HC6.out
            clear HC6
            by_cases c7 : a0 ≥ 224
            · rw [if_pos c7] at H
              have c7b0 : decide (224 ≤ a0) = true := decide_eq_true c7
              clear c7
              (first | rw [c7b0] | (simp only [i64_w, i32_w]; rw [c7b0]) | skip)
              have H' := Aside0.mk H
              clear H
              go_wp2
              go_meet
              case rel => exact ⟨_, (decide (a0 ≤ 239)), (by first | rfl | (simp; done) | (simp [*]; done)), H', ⟨by have := HJ2.out; first | omega | exact Nat.le_refl _⟩, by repeat (first | exact Drawn0.refl _ | apply Drawn0.step)⟩
            · rw [if_neg c7] at H
              have c7b0 : decide (224 ≤ a0) = false := decide_eq_false c7
              clear c7
              (first | rw [c7b0] | (simp only [i64_w, i32_w]; rw [c7b0]) | skip)
              have H' := Aside0.mk H
              clear H
              go_wp2
              go_meet
              case rel => exact ⟨_, (false), (by first | rfl | (simp; done) | (simp [*]; done)), H', ⟨by have := HJ2.out; first | omega | exact Nat.le_refl _⟩, by repeat (first | exact Drawn0.refl _ | apply Drawn0.step)⟩
          case rest =>
            clear HC6
            try clear c2
            try clear c2b0
            try clear p2
            try clear c3
            try clear c4
            try clear c4b0
            try clear c5
            try clear c7
            try clear c7b0
            try clear p2
            obtain ⟨kq, x13_5, rfl, HA, HJ5, ⟨mc5, rfl⟩⟩ := hcut
            cases kq with
            | zero => exact absurd HA.out (by simp [gantlineref04_length.j1])
            | succ kj5 =>
              have H := HA.out
              clear HA
              simp only [gantlineref04_length.j1] at H
              by_cases c8 : x13_5 = true
              · subst c8
                have H1 : (some 3) = some r := by rw [if_pos rfl] at H; exact H
                clear H
                have H := H1
                clear H1
                obtain rfl := Option.some.inj H
                go_wp2
                go_ret
                exact ⟨by first | rfl | (simp; done) | (simp [*]; done), by repeat (first | exact Drawn0.refl _ | apply Drawn0.step)⟩
              · replace c8 := Bool.eq_false_iff.mpr c8
                subst c8
                have H1 : (if a0 ≥ 240 then (if a0 ≤ 244 then (some 4) else (some 0)) else (some 0)) = some r := by rw [if_neg (show ¬ (false = true) by decide)] at H; exact H
                clear H
                have H := H1
                clear H1
                by_cases c9 : a0 ≥ 240
                · rw [if_pos c9] at H
                  have c9b0 : decide (240 ≤ a0) = true := decide_eq_true c9
                  clear c9
                  by_cases c10 : a0 ≤ 244
                  · rw [if_pos c10] at H
                    have c10b0 : decide (a0 ≤ 244) = true := decide_eq_true c10
                    clear c10
                    obtain rfl := Option.some.inj H
                    go_wp2
                    go_ret
                    exact ⟨by first | rfl | (simp; done) | (simp [*]; done), by repeat (first | exact Drawn0.refl _ | apply Drawn0.step)⟩
                  · rw [if_neg c10] at H
                    have c10b0 : decide (a0 ≤ 244) = false := decide_eq_false c10
                    clear c10
                    obtain rfl := Option.some.inj H
                    go_wp2
                    go_ret
                    exact ⟨by first | rfl | (simp; done) | (simp [*]; done), by repeat (first | exact Drawn0.refl _ | apply Drawn0.step)⟩
                · rw [if_neg c9] at H
                  have c9b0 : decide (240 ≤ a0) = false := decide_eq_false c9
                  clear c9
                  obtain rfl := Option.some.inj H
                  go_wp2
                  go_ret
                  exact ⟨by first | rfl | (simp; done) | (simp [*]; done), by repeat (first | exact Drawn0.refl _ | apply Drawn0.step)⟩

/-! ### gantlineref04_least: function 31 -/
def gantlineref04_least.f (a0 : Int) : Option (Int) := if a0 = 224 then (some 160) else (if a0 = 240 then (some 144) else (some 128))
set_option maxHeartbeats 8000000 in
set_option maxRecDepth 100000 in
theorem gantlineref04_least.calls (a0 : Int) (r : Int) (w : World) (h : gantlineref04_least.f a0 = some r) :
    Calls Try.prog 31 #[.int .u8 a0] w fun e w' => e = .returned (.int .u8 r) ∧ Drawn0 w w' := by
  have H : (if a0 = 224 then (some 160) else (if a0 = 240 then (some 144) else (some 128))) = some r := h
  clear h
  by_cases c2 : a0 = 224
  · rw [if_pos c2] at H
    have c2b0 : (a0 == 224) = true := beq_iff_eq.mpr c2
    have c2b1 : (a0 != 224) = false := bne_eq_false_iff_eq.mpr c2
    clear c2
    obtain rfl := Option.some.inj H
    go_enter Try.func31, Try.ntmps31
    go_wp2
    go_ret
    exact ⟨by first | rfl | (simp; done) | (simp [*]; done), by repeat (first | exact Drawn0.refl _ | apply Drawn0.step)⟩
  · rw [if_neg c2] at H
    have c2b0 : (a0 == 224) = false := beq_eq_false_iff_ne.mpr c2
    have c2b1 : (a0 != 224) = true := bne_iff_ne.mpr c2
    by_cases c3 : a0 = 240
    · rw [if_pos c3] at H
      have c3b0 : (a0 == 240) = true := beq_iff_eq.mpr c3
      have c3b1 : (a0 != 240) = false := bne_eq_false_iff_eq.mpr c3
      clear c3
      obtain rfl := Option.some.inj H
      go_enter Try.func31, Try.ntmps31
      go_wp2
      go_ret
      exact ⟨by first | rfl | (simp; done) | (simp [*]; done), by repeat (first | exact Drawn0.refl _ | apply Drawn0.step)⟩
    · rw [if_neg c3] at H
      have c3b0 : (a0 == 240) = false := beq_eq_false_iff_ne.mpr c3
      have c3b1 : (a0 != 240) = true := bne_iff_ne.mpr c3
      obtain rfl := Option.some.inj H
      go_enter Try.func31, Try.ntmps31
      go_wp2
      go_ret
      exact ⟨by first | rfl | (simp; done) | (simp [*]; done), by repeat (first | exact Drawn0.refl _ | apply Drawn0.step)⟩

/-! ### gantlineref04_most: function 32 -/
def gantlineref04_most.f (a0 : Int) : Option (Int) := if a0 = 237 then (some 159) else (if a0 = 244 then (some 143) else (some 191))
set_option maxHeartbeats 8000000 in
set_option maxRecDepth 100000 in
theorem gantlineref04_most.calls (a0 : Int) (r : Int) (w : World) (h : gantlineref04_most.f a0 = some r) :
    Calls Try.prog 32 #[.int .u8 a0] w fun e w' => e = .returned (.int .u8 r) ∧ Drawn0 w w' := by
  have H : (if a0 = 237 then (some 159) else (if a0 = 244 then (some 143) else (some 191))) = some r := h
  clear h
  by_cases c2 : a0 = 237
  · rw [if_pos c2] at H
    have c2b0 : (a0 == 237) = true := beq_iff_eq.mpr c2
    have c2b1 : (a0 != 237) = false := bne_eq_false_iff_eq.mpr c2
    clear c2
    obtain rfl := Option.some.inj H
    go_enter Try.func32, Try.ntmps32
    go_wp2
    go_ret
    exact ⟨by first | rfl | (simp; done) | (simp [*]; done), by repeat (first | exact Drawn0.refl _ | apply Drawn0.step)⟩
  · rw [if_neg c2] at H
    have c2b0 : (a0 == 237) = false := beq_eq_false_iff_ne.mpr c2
    have c2b1 : (a0 != 237) = true := bne_iff_ne.mpr c2
    by_cases c3 : a0 = 244
    · rw [if_pos c3] at H
      have c3b0 : (a0 == 244) = true := beq_iff_eq.mpr c3
      have c3b1 : (a0 != 244) = false := bne_eq_false_iff_eq.mpr c3
      clear c3
      obtain rfl := Option.some.inj H
      go_enter Try.func32, Try.ntmps32
      go_wp2
      go_ret
      exact ⟨by first | rfl | (simp; done) | (simp [*]; done), by repeat (first | exact Drawn0.refl _ | apply Drawn0.step)⟩
    · rw [if_neg c3] at H
      have c3b0 : (a0 == 244) = false := beq_eq_false_iff_ne.mpr c3
      have c3b1 : (a0 != 244) = true := bne_iff_ne.mpr c3
      obtain rfl := Option.some.inj H
      go_enter Try.func32, Try.ntmps32
      go_wp2
      go_ret
      exact ⟨by first | rfl | (simp; done) | (simp [*]; done), by repeat (first | exact Drawn0.refl _ | apply Drawn0.step)⟩

end Go.Proofs.Ytbmkphebmelgdaa.P
