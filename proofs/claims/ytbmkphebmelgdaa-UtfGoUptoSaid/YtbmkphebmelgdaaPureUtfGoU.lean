/- Bytes are a text just if the range over them as a string meets no place at which it has none: for a slice of bytes of at most 1048576 values. -/
import Derived.Test.YtbmkphebmelgdaaPx0
import Derived.Test.YtbmkphebmelgdaaPx9
import Derived.Test.YtbmkphebmelgdaaUtfDec
import Derived.Test.YtbmkphebmelgdaaUtfMore
import Derived.Test.YtbmkphebmelgdaaUtfOne
import Derived.Test.YtbmkphebmelgdaaUtfRef
import Derived.Test.YtbmkphebmelgdaaUtfRun
namespace Go.Proofs.Ytbmkphebmelgdaa.Pure
open Go.RowKit Go.Proofs.Ytbmkphebmelgdaa.P Go.Proofs.YtbmkphebmelgdaaW.PrintWords Go.Proofs.YtbmkphebmelgdaaW.PrintLast Go.Proofs.YtbmkphebmelgdaaW.PrintMore
set_option linter.unusedVariables false
set_option linter.unusedSimpArgs false

/-- The replacement character's own bytes. -/
theorem one_repl {l : List Int} (hb : Byt l) (h : (oneS l).2.2 < 0) (hr : (oneS l).1 = 65533) : ∃ t, l = 239 :: 191 :: 189 :: t := by
  revert h hr
  unfold oneS
  match l, hb with
  | [], _ => simp
  | c :: t, hb =>
    obtain ⟨⟨c0, c1⟩, ht⟩ := hb.cons
    simp only
    by_cases a : c < 128
    · rw [if_pos a]; intro _ hr; simp only at hr; omega
    rw [if_neg a]
    by_cases b : c < 194 ∨ 244 < c
    · rw [if_pos b]; intro h; simp at h
    rw [if_neg b]
    by_cases d : c < 224
    · rw [if_pos d]
      match t, ht with
      | [], _ => intro h; simp at h
      | x :: u, ht =>
        simp only
        by_cases e : x < 128 ∨ 191 < x
        · rw [if_pos e]; intro h; simp at h
        · rw [if_neg e]; intro _ hr; simp only at hr; omega
    rw [if_neg d]
    match t, ht with
    | [], _ => intro h; simp at h
    | x :: u, ht =>
      simp only
      obtain ⟨⟨x0, x1⟩, hu⟩ := ht.cons
      have hlo := loS_le c
      have hhi := hiS_le c
      by_cases e : x < loS c ∨ hiS c < x
      · rw [if_pos e]; intro h; simp at h
      rw [if_neg e]
      match u, hu with
      | [], _ => intro h; simp at h
      | y :: v, hu =>
        simp only
        obtain ⟨⟨y0, y1⟩, hv⟩ := hu.cons
        by_cases f : y < 128 ∨ 191 < y
        · rw [if_pos f]; intro h; simp at h
        rw [if_neg f]
        by_cases g : c < 240
        · rw [if_pos g]
          intro _ hr
          simp only at hr
          exact ⟨v, by rw [show c = 239 by omega, show x = 191 by omega, show y = 189 by omega]⟩
        rw [if_neg g]
        match v, hv with
        | [], _ => intro h; simp at h
        | z :: q, hv =>
          simp only
          by_cases i : z < 128 ∨ 191 < z
          · rw [if_pos i]; intro h; simp at h
          · rw [if_neg i]
            intro _ hr
            simp only at hr
            have : c = 240 → 144 ≤ x := by
              intro hc
              have : loS c = 144 := by rw [hc]; rfl
              omega
            exfalso
            omega
theorem own_repl {l : List Int} (hb : Byt l) {p : Nat} (h : gantlinelaw04_UtfGo.own l p) : (oneS (l.drop p)).2.2 < 0 := by
  obtain ⟨h1, h2, h3, h4⟩ := h
  have e : l.drop p = 239 :: 191 :: 189 :: l.drop (p + 3) := by
    have g : ∀ j, p + j < l.length → ∀ v, rd l ((p : Int) + (j : Nat)) = v → l.drop (p + j) = v :: l.drop (p + j + 1) := by
      intro j hj v hv
      rw [List.drop_eq_getElem_cons hj]
      congr 1
      rw [← hv]
      unfold rd
      rw [show ((p : Int) + (j : Nat)).toNat = p + j by omega, List.getD_eq_getElem?_getD, List.getElem?_eq_getElem hj]
      rfl
    have g0 := g 0 (by omega) 239 (by simpa using h2)
    have g1 := g 1 (by omega) 191 (by simpa using h3)
    have g2 := g 2 (by omega) 189 (by simpa using h4)
    rw [Nat.add_zero] at g0
    rw [g0, g1, g2]
  rw [e]
  simp [oneS, loS, hiS]
theorem go_loop (l : List Int) (hb : Byt l) (hl : l.length < 4611686018427387904) (L : List Int) (why fat : Int) : ∀ (m p n k : Nat), p + m = l.length → n ≤ p → m + 31 ≤ k →
    (((runS m (l.drop p)).2 < 0 ∧ why = 0 ∧ fat = 0 ∧ n ≤ L.length ∧ L.drop n = (runS m (l.drop p)).1) ∨ (0 ≤ (runS m (l.drop p)).2 ∧ why = 6 ∧ fat = p + (runS m (l.drop p)).2)) →
    gantlinelaw04_UtfGo.l0 k l L why fat (strOfNums l) p n = some true := by
  intro m
  induction m using Nat.strongRecOn with
  | ind m ih =>
    intro p n k hp hn hk hc
    obtain ⟨k, rfl⟩ : ∃ k2, k = k2 + 1 := ⟨k - 1, by omega⟩
    rw [gantlinelaw04_UtfGo.l0, strOfNums_size]
    by_cases h0 : m = 0
    · subst h0
      rw [if_neg (by omega)]
      have e0 : l.drop p = [] := by rw [List.drop_eq_nil_iff]; omega
      rw [e0] at hc
      rcases hc with ⟨_, h1, h2, h3, h4⟩ | ⟨h1, _⟩
      · rw [if_pos ⟨h1, h2, by have := congrArg List.length h4; simp [runS] at this; omega⟩]
        exact utf_alive k (by omega)
      · simp [runS] at h1
    · have hpl : p < l.length := by omega
      obtain ⟨m, rfl⟩ : ∃ m2, m = m2 + 1 := ⟨m - 1, by omega⟩
      have hne := drop_ne hpl
      rw [if_pos hpl, decode_one hb hpl]
      by_cases hg : (oneS (l.drop p)).2.2 < 0
      · rw [if_pos hg]
        have hgd := one_good (hb.drop p) hg
        obtain ⟨_, g1, g2, g3, g4, g5⟩ := hgd
        rw [List.length_drop] at g3
        simp only
        have ho : (oneS (l.drop p)).1.toNat = 65533 → gantlinelaw04_UtfGo.own l p := by
          intro h
          obtain ⟨t, ht⟩ := one_repl (hb.drop p) hg (by omega)
          have hlen := congrArg List.length ht
          rw [List.length_drop] at hlen
          simp only [List.length_cons] at hlen
          have gg : ∀ j : Nat, rd l ((p : Int) + (j : Nat)) = (l.drop p).getD j 0 := by
            intro j
            unfold rd
            rw [show ((p : Int) + (j : Nat)).toNat = p + j by omega, List.getD_eq_getElem?_getD, List.getD_eq_getElem?_getD, List.getElem?_drop]
          refine ⟨by omega, ?_, ?_, ?_⟩
          · have := gg 0; rw [ht] at this; simpa using this
          · have := gg 1; rw [ht] at this; simpa using this
          · have := gg 2; rw [ht] at this; simpa using this
        rw [if_neg (fun h => h.2 (ho h.1))]
        rw [runS_good hne hg] at hc
        obtain ⟨q, hq⟩ : ∃ q : Nat, (oneS (l.drop p)).2.1 = q := ⟨(oneS (l.drop p)).2.1.toNat, by omega⟩
        rw [hq, Int.toNat_natCast] at hc ⊢
        rw [List.drop_drop] at hc
        have hmore : runS m (l.drop (p + q)) = runS (m + 1 - q) (l.drop (p + q)) := by
          rw [runS_more (m + 1 - q) m (l.drop (p + q)) (hb.drop _) (by rw [List.length_drop]; omega) (by omega)]
        rw [hmore] at hc
        have hcond : (n : Int) < 4611686018427387904 ∧ ((why = 0 ∧ fat = 0) → (n < L.length ∧ rd L n = (((oneS (l.drop p)).1.toNat : Nat) : Int))) := by
          refine ⟨by omega, ?_⟩
          rintro ⟨w0, f0⟩
          rcases hc with ⟨h1, h2, h3, h4, h5⟩ | ⟨h1, h2, h3⟩
          · have hlen := congrArg List.length h5
            simp only [List.length_drop, List.length_cons] at hlen
            refine ⟨by omega, ?_⟩
            have h6 : L.drop n = L[n]'(by omega) :: L.drop (n + 1) := List.drop_eq_getElem_cons (by omega)
            rw [h6] at h5
            have h7 := (List.cons.inj h5).1
            unfold rd
            rw [Int.toNat_natCast, List.getD_eq_getElem?_getD, List.getElem?_eq_getElem (by omega), Option.getD_some, h7]
            omega
          · omega
        rw [if_pos hcond]
        · apply ih (m + 1 - q) (by omega) (p + q) (n + 1) k (by omega) (by omega) (by omega)
          rcases hc with ⟨h1, h2, h3, h4, h5⟩ | ⟨h1, h2, h3⟩
          · by_cases hz : (runS (m + 1 - q) (l.drop (p + q))).2 < 0
            · refine .inl ⟨hz, h2, h3, ?_, ?_⟩
              · have := congrArg List.length h5
                simp only [List.length_drop, List.length_cons] at this
                omega
              · have := congrArg (List.drop 1) h5
                rw [List.drop_drop] at this
                simpa using this
            · simp only [if_neg hz] at h1
              omega
          · by_cases hz : (runS (m + 1 - q) (l.drop (p + q))).2 < 0
            · simp only [if_pos hz] at h1
              omega
            · simp only [if_neg hz] at h3
              exact .inr ⟨by omega, h2, by rw [h3]; omega⟩
      · rw [if_neg hg]
        simp only
        rw [if_pos ⟨trivial, fun h => hg (own_repl hb h)⟩]
        rw [runS_bad hne hg] at hc
        rcases hc with ⟨h1, _⟩ | ⟨h1, h2, h3⟩
        · exact absurd h1 hg
        · rw [if_pos ⟨h2, by simp only at h1 h3; omega⟩]
          exact utf_alive k (by omega)
theorem UtfGoU : gantlinelaw04_UtfGo.PureU := by
  intro l hm hl hw hU
  have hb := byt_of_wf hw
  refine ⟨l.length + 40, ?_⟩
  have pa := runS_place l.length l hb
  have hlen := runS_len l.length l hb
  unfold gantlinelaw04_UtfGo.f
  rw [runes_eq hb (by omega) (by omega) _ (by omega)]
  simp only [Option.bind_some]
  unfold tellS
  by_cases h : (runS l.length l).2 < 0
  · simp only [if_pos h, List.nil_append]
    rw [if_pos ⟨by omega, by omega⟩]
    exact go_loop l hb (by omega) _ 0 0 l.length 0 0 _ (by omega) (by omega) (by omega) (.inl ⟨by simpa using h, rfl, rfl, by omega, by simp⟩)
  · simp only [if_neg h]
    rw [if_pos ⟨by simp, by omega⟩]
    exact go_loop l hb (by omega) _ _ _ l.length 0 0 _ (by omega) (by omega) (by omega) (.inr ⟨by simp only [List.drop_zero]; omega, rfl, by simp⟩)
end Go.Proofs.Ytbmkphebmelgdaa.Pure
