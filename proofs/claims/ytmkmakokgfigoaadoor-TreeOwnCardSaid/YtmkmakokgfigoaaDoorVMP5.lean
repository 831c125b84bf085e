import Derived.Test.YtmkmakokgfigoaaDoorVMP2
namespace Go.Proofs.YtmkmakokgfigoaaDoor
open Go.Proofs.YtmkmakokgfigoaaDoor.VM Go.RowKit
set_option maxRecDepth 100000
set_option linter.unusedVariables false
set_option linter.unusedSimpArgs false
set_option maxHeartbeats 1000000
/-! Places in written trees. -/
/-- The place to which a number leads: a key's or a kid's. -/
def wayP (kind : Int) (nk nd : Nat) (k : Int) : Option (Bool × Nat) :=
  if k < 0 then none
  else if kind = 8 then (if k % 2 = 0 then (if (k / 2).toNat < nk then some (true, (k / 2).toNat) else none) else (if (k / 2).toNat < nd then some (false, (k / 2).toNat) else none))
  else if kind = 7 ∨ kind = 9 then (if k.toNat < nd then some (false, k.toNat) else none)
  else none
/-- One of the nodes in it is another one. -/
def setP : Pl → Bool → Nat → Pl → Pl
  | .mk kind n neg dg ex tx bs keys kids, true, i, y => .mk kind n neg dg ex tx bs (keys.set i y) kids
  | .mk kind n neg dg ex tx bs keys kids, false, i, y => .mk kind n neg dg ex tx bs keys (kids.set i y)
def kidP : Pl → Bool → Nat → Option Pl
  | .mk _ _ _ _ _ _ _ keys _, true, i => keys[i]?
  | .mk _ _ _ _ _ _ _ _ kids, false, i => kids[i]?
def wayQ : Pl → Int → Option (Bool × Nat)
  | .mk kind _ _ _ _ _ _ keys kids, k => wayP kind keys.length kids.length k
theorem wayP_lt {kind : Int} {nk nd : Nat} {k : Int} {b : Bool} {i : Nat} (h : wayP kind nk nd k = some (b, i)) : (b = true → i < nk) ∧ (b = false → i < nd) := by
  unfold wayP at h
  repeat' split at h
  all_goals first | (cases h; done) | (cases h; constructor <;> intro q <;> first | assumption | cases q)
theorem way_kid {x : Pl} {k : Int} {b : Bool} {i : Nat} (h : wayQ x k = some (b, i)) : ∃ y, kidP x b i = some y := by
  obtain ⟨kind, n, neg, dg, ex, tx, bs, keys, kids⟩ := x
  obtain ⟨h1, h2⟩ := wayP_lt h
  cases b
  · exact ⟨_, List.getElem?_eq_getElem (h2 rfl)⟩
  · exact ⟨_, List.getElem?_eq_getElem (h1 rfl)⟩
def findP : Pl → List Int → Option Pl
  | x, [] => some x
  | x, k :: ps => (wayQ x k).bind fun w => (kidP x w.1 w.2).bind fun y => findP y ps
def putP : Pl → List Int → Pl → Option Pl
  | x, [], y => some y
  | x, k :: ps, y => (wayQ x k).bind fun w => (kidP x w.1 w.2).bind fun z => (putP z ps y).map fun u => setP x w.1 w.2 u
theorem kid_dep {x y : Pl} {b : Bool} {i : Nat} (h : kidP x b i = some y) : pdep y < pdep x := by
  have mem : ∀ (l : List Pl), y ∈ l → pdep y ≤ pdeps l := fun l hl => by
    induction l with
    | nil => cases hl
    | cons z l ih =>
      rcases List.mem_cons.1 hl with rfl | hl
      · simp only [pdeps]; omega
      · have := ih hl; simp only [pdeps]; omega
  obtain ⟨kind, n, neg, dg, ex, tx, bs, keys, kids⟩ := x
  cases b
  · have := mem kids (List.mem_of_getElem? h); simp only [pdep]; omega
  · have := mem keys (List.mem_of_getElem? h); simp only [pdep]; omega
theorem set_dep {x y : Pl} {b : Bool} {i : Nat} : pdep (setP x b i y) ≤ max (pdep x) (1 + pdep y) := by
  have mem : ∀ (l : List Pl) (i : Nat), pdeps (l.set i y) ≤ max (pdeps l) (pdep y) := fun l => by
    induction l with
    | nil => intro i; simp [pdeps]
    | cons z l ih =>
      intro i
      cases i with
      | zero => simp only [List.set_cons_zero, pdeps]; omega
      | succ i => have := ih i; simp only [List.set_cons_succ, pdeps]; omega
  obtain ⟨kind, n, neg, dg, ex, tx, bs, keys, kids⟩ := x
  cases b
  · have := mem kids i; simp only [setP, pdep]; omega
  · have := mem keys i; simp only [setP, pdep]; omega
theorem put_dep : ∀ {ps : List Int} {x y z : Pl}, putP x ps y = some z → pdep z ≤ pdep x + pdep y
  | [], x, y, z, h => by cases h; omega
  | k :: ps, x, y, z, h => by
    simp only [putP] at h
    obtain ⟨⟨b, i⟩, h1, h⟩ := Option.bind_eq_some_iff.1 h
    obtain ⟨c, h2, h⟩ := Option.bind_eq_some_iff.1 h
    obtain ⟨u, h3, rfl⟩ := Option.map_eq_some_iff.1 h
    have := put_dep h3
    have := kid_dep h2
    have := @set_dep x u b i
    show pdep (setP x b i u) ≤ _
    omega
theorem put_find : ∀ {ps : List Int} {x y : Pl}, (putP x ps y).isSome = (findP x ps).isSome
  | [], x, y => rfl
  | k :: ps, x, y => by
    simp only [putP, findP]
    cases wayQ x k with
    | none => rfl
    | some w =>
      simp only [Option.bind_some]
      cases kidP x w.1 w.2 with
      | none => rfl
      | some z =>
        simp only [Option.bind_some, Option.isSome_map]
        exact put_find
/-- A node lies there. -/
def Loc (S : St) (b off : Nat) (x : Pl) (F : List Nat) : Prop := ∃ cs c1 c c2, S.mem b = some (.cells cs) ∧ cs = c1 ++ (c ++ c2) ∧ c1.length = off ∧ HN S x c F
theorem Loc.get {S : St} {b off : Nat} {x : Pl} {F : List Nat} (h : Loc S b off x F) : ∃ cs c, S.cells b = some cs ∧ HN S x c F ∧ off + 9 ≤ cs.length ∧ (cs.drop off).take 9 = c ∧ ∀ j, j < 9 → cs[off + j]? = c[j]? := by
  obtain ⟨cs, c1, c, c2, h1, rfl, rfl, h2⟩ := h
  have hl := (hn_cells h2).1
  refine ⟨_, c, by unfold St.cells; rw [h1], h2, by simp; omega, ?_, fun j hj => ?_⟩
  · rw [List.drop_left, List.take_append_of_le_length (by omega), List.take_of_length_le (by omega)]
  · rw [List.getElem?_append_right (by omega), List.getElem?_append_left (by omega)]
    congr 1; omega
theorem setsA_mid : ∀ (d c1 old c2 : List AV), old.length = d.length → setsA (c1 ++ (old ++ c2)) c1.length d = c1 ++ (d ++ c2)
  | [], c1, old, c2, h => by
    have : old = [] := List.length_eq_zero_iff.1 (by simpa using h)
    subst this; rfl
  | x :: d, c1, [], c2, h => by simp at h
  | x :: d, c1, o :: old, c2, h => by
    show setsA ((c1 ++ ((o :: old) ++ c2)).set c1.length x) (c1.length + 1) d = _
    have h1 : (c1 ++ ((o :: old) ++ c2)).set c1.length x = (c1 ++ [x]) ++ (old ++ c2) := by simp
    have h2 := setsA_mid d (c1 ++ [x]) old c2 (by simpa using h)
    rw [h1]
    simpa using h2
/-- What is written at a place of a tree turns the tree so. -/
def Back (S : St) (b0 off0 : Nat) (F0 : List Nat) (b off : Nat) (F : List Nat) (g : Pl → Pl) : Prop :=
  (b = b0 ∨ b ∈ F0) ∧ b ∉ F ∧ (∀ j ∈ F, j ∈ F0) ∧
    ∀ (S1 : St) (y : Pl) (d : List AV) (G : List Nat) (cs : List AV), S.next ≤ S1.next → (∀ j, (j = b0 ∨ j ∈ F0) → j ∉ F → S1.mem j = S.mem j) → S.mem b = some (.cells cs) → HN S1 y d G → G.Nodup → (∀ j ∈ G, (j ∈ F0 → j ∈ F) ∧ j ≠ b0 ∧ j ≠ b) →
      ∃ F', Loc (S1.set b (some (.cells (setsA cs off d)))) b0 off0 (g y) F' ∧ F'.Nodup ∧ ∀ j ∈ F', j ∈ F0 ∨ j ∈ G
theorem back_here {S : St} {b off : Nat} {x : Pl} {F : List Nat} (h : Loc S b off x F) (hb : b ∉ F) : Back S b off F b off F id := by
  refine ⟨.inl rfl, hb, fun _ h => h, fun S1 y d G cs hn hm hc hy hnd hG => ?_⟩
  obtain ⟨cs', c1, c, c2, h1, rfl, rfl, h2⟩ := h
  rw [h1] at hc
  cases hc
  have hl := (hn_cells h2).1
  have hl2 := (hn_cells hy).1
  refine ⟨G, ⟨_, c1, d, c2, mem_set _ _ _, setsA_mid d c1 c c2 (by omega), rfl, ?_⟩, hnd, fun j hj => .inr hj⟩
  exact HN.frame (S := S1) (S1 := S1.set b _) (Nat.le_refl S1.next) _ hy fun j hj => set_ne (hG j hj).2.2
/-- The list that is named a, with a node set. -/
theorem hl_set {S S2 : St} {xs : List Pl} {v : AV} {F : List Nat} {i : Nat} (h : HL (fun cs G => HC S xs cs G) xs.length S v F) (hi : i < xs.length) (hnd : F.Nodup) :
    ∃ a F1 F0 F2 cs c1 c c2, F = a :: (F1 ++ (F0 ++ F2)) ∧ v = .hnd a 0 xs.length 9 ∧ S.mem a = some (.cells cs) ∧ cs = c1 ++ (c ++ c2) ∧ c1.length = i * 9 ∧ HN S xs[i] c F0 ∧
      ∀ (S2 : St) (y : Pl) (d : List AV) (G : List Nat), S.next ≤ S2.next → S2.mem a = some (.cells (c1 ++ (d ++ c2))) → (∀ j ∈ F1, S2.mem j = S.mem j) → (∀ j ∈ F2, S2.mem j = S.mem j) → HN S2 y d G →
        HL (fun cs G => HC S2 (xs.set i y) cs G) (xs.set i y).length S2 v (a :: (F1 ++ (G ++ F2))) := by
  rcases h with ⟨rfl, h0, rfl⟩ | ⟨a, cs, G0, rfl, h1, h1', rfl, h2, h3⟩
  · omega
  · obtain ⟨c1, c, c2, F1, F0, F2, rfl, hl, rfl, h4, h5⟩ := hc_at hi h3
    refine ⟨a, F1, F0, F2, _, c1, c, c2, rfl, rfl, h2, rfl, hl, h4, fun S2 y d G hn hm g1 g2 hy => ?_⟩
    refine .inr ⟨a, _, _, rfl, by omega, by simpa using h1', by simp, hm, h5 S2 y d G hn g1 g2 hy⟩
/-- From a node to one of those in it. -/
theorem back_kid {S : St} {b0 off0 : Nat} {F0 : List Nat} {b off : Nat} {x : Pl} {F : List Nat} {g : Pl → Pl} (hx : Loc S b off x F) (hF : F.Nodup) (hb0 : b0 ∉ F0) (h : Back S b0 off0 F0 b off F g) {q : Bool} {i : Nat} {z : Pl} (hz : kidP x q i = some z) :
    ∃ a Fz n, Loc S a (i * 9) z Fz ∧ Fz.Nodup ∧ a ∉ Fz ∧ Back S b0 off0 F0 a (i * 9) Fz (fun u => g (setP x q i u)) ∧
      (∀ cs c, S.mem b = some (.cells cs) → (cs.drop off).take 9 = c → c[if q then 7 else 8]? = some (.hnd a 0 n 9)) := by
  obtain ⟨hbb, hbF, hFF, hput⟩ := h
  obtain ⟨cs, e1, e, e2, hmb, hcs, hoff, hxn⟩ := hx
  have hl9 := (hn_cells hxn).1
  have htake : (cs.drop off).take 9 = e := by rw [hcs, ← hoff, List.drop_left, List.take_append_of_le_length (by omega), List.take_of_length_le (by omega)]
  obtain ⟨kind, n, neg, dg, ex, tx, bs, keys, kids⟩ := x
  simp only [HN] at hxn
  obtain ⟨vb, vk, vd, Fb, Fk, Fd, he, hf1, hf2, rfl, hk, hd⟩ := hxn
  have hN0 := List.nodup_append.1 hF
  have hN := List.nodup_append.1 hN0.2.1
  -- the two lists alike
  have main : ∀ (xs : List Pl) (v : AV) (Fx Fo : List Nat), HL (fun cs G => HC S xs cs G) xs.length S v Fx → xs[i]? = some z → Fx.Nodup → (∀ j, j ∈ Fx → j ∈ Fb ++ (Fk ++ Fd)) → (∀ j, j ∈ Fo → j ∈ Fb ++ (Fk ++ Fd)) → (∀ j ∈ Fo, j ∉ Fx) → Fo.Nodup →
      (∀ (S2 : St) (u : Pl) (Fx' : List Nat), S.next ≤ S2.next → (∀ j ∈ Fo, S2.mem j = S.mem j) → HL (fun cs G => HC S2 (xs.set i u) cs G) (xs.set i u).length S2 v Fx' → ∃ F', HN S2 (setP (.mk kind n neg dg ex tx bs keys kids) q i u) e F' ∧ (∀ j, j ∈ F' ↔ j ∈ Fx' ∨ j ∈ Fo) ∧ (Fx'.Nodup → (∀ j ∈ Fx', j ∉ Fo) → F'.Nodup)) →
      ∃ a Fz m, Loc S a (i * 9) z Fz ∧ Fz.Nodup ∧ a ∉ Fz ∧ Back S b0 off0 F0 a (i * 9) Fz (fun u => g (setP (.mk kind n neg dg ex tx bs keys kids) q i u)) ∧ v = .hnd a 0 m 9 := by
    intro xs v Fx Fo hl hi hndx hsub hsubo hdis hndo hre
    have hlt : i < xs.length := (List.getElem?_eq_some_iff.1 hi).1
    have hz : xs[i] = z := (List.getElem?_eq_some_iff.1 hi).2
    obtain ⟨a, F1, Fz, F2, ck, c1, c, c2, rfl, rfl, hma, rfl, hc1, hzn, hset⟩ := hl_set hl hlt hndx (S2 := S)
    have hn1 := List.nodup_cons.1 hndx
    have hn2 := List.nodup_append.1 hn1.2
    have hn3 := List.nodup_append.1 hn2.2.1
    have haz : a ∉ Fz := fun h => hn1.1 (by simp [h])
    have zF : ∀ j ∈ Fz, j ∈ Fb ++ (Fk ++ Fd) := fun j hj => hsub j (by simp [hj])
    have aF : a ∈ Fb ++ (Fk ++ Fd) := hsub a (by simp)
    have f1 : ∀ j ∈ F1, j ∉ Fz := fun j hj h => hn2.2.2 j hj j (by simp [h]) rfl
    have f2 : ∀ j ∈ F2, j ∉ Fz := fun j hj h => hn3.2.2 j h j hj rfl
    rw [hz] at hzn
    refine ⟨a, Fz, xs.length, ⟨_, c1, c, c2, hma, rfl, hc1, hzn⟩, hn3.1, haz, ⟨.inr (hFF a aF), haz, fun j hj => hFF j (zF j hj), ?_⟩, rfl⟩
    intro S1 y d G cs' hn hm hcs' hy hndG hG
    rw [hma] at hcs'
    cases hcs'
    have hl1 := (hn_cells hzn).1
    have hl2 := (hn_cells hy).1
    have hsm : setsA (c1 ++ (c ++ c2)) (i * 9) d = c1 ++ (d ++ c2) := by rw [← hc1]; exact setsA_mid d c1 c c2 (by omega)
    rw [hsm]
    obtain ⟨S2, hS2⟩ : ∃ S2, S2 = S1.set a (some (.cells (c1 ++ (d ++ c2)))) := ⟨_, rfl⟩
    rw [← hS2]
    have hS2n : S2.next = S1.next := by rw [hS2]; rfl
    have hS2m : ∀ j, j ≠ a → S2.mem j = S1.mem j := fun j hj => by rw [hS2]; exact set_ne hj
    have hS2a : S2.mem a = some (.cells (c1 ++ (d ++ c2))) := by rw [hS2]; exact mem_set _ _ _
    have agree : ∀ j, (j = b0 ∨ j ∈ F0) → j ∉ Fz → j ≠ a → S2.mem j = S.mem j := fun j h1 h2 h3 => by rw [hS2m j h3, hm j h1 h2]
    have hy2 : HN S2 y d G := HN.frame (by omega) _ hy fun j hj => hS2m j (hG j hj).2.2
    have a1 : ∀ j ∈ F1, j ≠ a := fun j hj e => hn1.1 (by simp [← e, hj])
    have a2 : ∀ j ∈ F2, j ≠ a := fun j hj e => hn1.1 (by simp [← e, hj])
    have hL := hset S2 y d G (by omega) hS2a (fun j hj => agree j (.inr (hFF j (hsub j (by simp [hj])))) (f1 j hj) (a1 j hj)) (fun j hj => agree j (.inr (hFF j (hsub j (by simp [hj])))) (f2 j hj) (a2 j hj)) hy2
    obtain ⟨F', hn', hF', hndF'⟩ := hre S2 y _ (by omega) (fun j hj => agree j (.inr (hFF j (hsubo j hj))) (fun h => hdis j hj (by simp [h])) (fun e => hdis j hj (by simp [e]))) hL
    have hGin : ∀ j ∈ G, j ∈ Fb ++ (Fk ++ Fd) → j ∈ Fz := fun j hj h => (hG j hj).1 (hFF j h)
    have hndx' : (a :: (F1 ++ (G ++ F2))).Nodup := by
      refine List.nodup_cons.2 ⟨fun h => ?_, List.nodup_append.2 ⟨hn2.1, List.nodup_append.2 ⟨hndG, hn3.2.1, fun x hx y' hy' e => ?_⟩, fun x hx y' hy' e => ?_⟩⟩
      · rcases List.mem_append.1 h with h | h
        · exact a1 a h rfl
        · rcases List.mem_append.1 h with h | h
          · exact (hG a h).2.2 rfl
          · exact a2 a h rfl
      · subst e
        exact f2 x hy' (hGin x hx (hsub x (by simp [hy'])))
      · subst e
        rcases List.mem_append.1 hy' with h | h
        · exact f1 x hx (hGin x h (hsub x (by simp [hx])))
        · exact hn2.2.2 x hx x (by simp [h]) rfl
    have hdis' : ∀ j ∈ a :: (F1 ++ (G ++ F2)), j ∉ Fo := by
      intro j hj ho
      rcases List.mem_cons.1 hj with rfl | hj
      · exact hdis j ho (by simp)
      · rcases List.mem_append.1 hj with hj | hj
        · exact hdis j ho (by simp [hj])
        · rcases List.mem_append.1 hj with hj | hj
          · exact hdis j ho (by simp [hGin j hj (hsubo j ho)])
          · exact hdis j ho (by simp [hj])
    have hmem : ∀ j ∈ F', j ∈ Fb ++ (Fk ++ Fd) ∨ j ∈ G := by
      intro j hj
      rcases (hF' j).1 hj with hj | hj
      · rcases List.mem_cons.1 hj with rfl | hj
        · exact .inl aF
        · rcases List.mem_append.1 hj with hj | hj
          · exact .inl (hsub j (by simp [hj]))
          · rcases List.mem_append.1 hj with hj | hj
            · exact .inr hj
            · exact .inl (hsub j (by simp [hj]))
      · exact .inl (hsubo j hj)
    have hba : b ≠ a := fun e => hbF (by rw [e]; exact aF)
    have hbz : b ∉ Fz := fun h => hbF (zF b h)
    obtain ⟨F'', hL2, hnd2, hsub2⟩ := hput S2 (setP (.mk kind n neg dg ex tx bs keys kids) q i y) e F' cs (by omega) (fun j h1 h2 => agree j h1 (fun h => h2 (zF j h)) (fun e => h2 (by rw [e]; exact aF))) hmb hn' (hndF' hndx' hdis') (fun j hj => by
      rcases hmem j hj with h | h
      · exact ⟨fun _ => h, fun e => hb0 (by rw [← e]; exact hFF j h), fun e => hbF (by rw [← e]; exact h)⟩
      · refine ⟨fun h0 => zF j ((hG j h).1 h0), (hG j h).2.1, fun e => ?_⟩
        subst e
        rcases hbb with rfl | h0
        · exact (hG _ h).2.1 rfl
        · exact hbz ((hG _ h).1 h0))
    have hsame : S2.set b (some (.cells (setsA cs off e))) = S2 := by
      have h1 : setsA cs off e = cs := by rw [hcs, ← hoff]; exact setsA_mid e e1 e e2 rfl
      have h2 : S2.mem b = some (.cells cs) := by rw [agree b hbb hbz hba]; exact hmb
      rw [h1]
      unfold St.set
      have : upd S2.mem b (some (.cells cs)) = S2.mem := by
        funext j
        unfold upd
        split
        · rename_i e'; rw [e', h2]
        · rfl
      rw [this]
    rw [hsame] at hL2
    refine ⟨F'', hL2, hnd2, fun j hj => ?_⟩
    rcases hsub2 j hj with h | h
    · exact .inl h
    · rcases hmem j h with h | h
      · exact .inl (hFF j h)
      · exact .inr h
  cases q
  · obtain ⟨a, Fz, m, r1, r2, r3, r4, r5⟩ := main kids vd Fd (Fb ++ Fk) hd hz hN.2.1 (fun j hj => by simp [hj]) (fun j hj => by rcases List.mem_append.1 hj with h | h <;> simp [h]) (fun j hj h => by
      rcases List.mem_append.1 hj with h' | h'
      · exact hN0.2.2 j h' j (by simp [h]) rfl
      · exact hN.2.2 j h' j h rfl) (List.nodup_append.2 ⟨hN0.1, hN.1, fun x hx y hy e => by subst e; exact hN0.2.2 x hx x (by simp [hy]) rfl⟩) (fun S2 u Fx' hn hm hL => by
      refine ⟨Fb ++ (Fk ++ Fx'), ?_, fun j => by simp only [List.mem_append]; grind, fun h1 h2 => ?_⟩
      · simp only [setP, HN]
        exact ⟨vb, vk, vd, Fb, Fk, Fx', he, hf1.frame hn (fun j hj => hm j (by simp [hj])), hf2, rfl, hk.mono hn (fun j hj => hm j (by simp [hj])) (fun cs G hG h => HC.frame hn _ h fun j hj => hm j (by simp [hG j hj])), hL⟩
      · refine List.nodup_append.2 ⟨hN0.1, List.nodup_append.2 ⟨hN.1, h1, fun x hx y hy e => by subst e; exact h2 x hy (by simp [hx])⟩, fun x hx y hy e => ?_⟩
        subst e
        rcases List.mem_append.1 hy with h | h
        · exact hN0.2.2 x hx x (by simp [h]) rfl
        · exact h2 x h (by simp [hx]))
    refine ⟨a, Fz, m, r1, r2, r3, r4, fun cs' c hc ht => ?_⟩
    rw [hmb] at hc; cases hc
    rw [← ht, htake, he, r5]; rfl
  · obtain ⟨a, Fz, m, r1, r2, r3, r4, r5⟩ := main keys vk Fk (Fb ++ Fd) hk hz hN.1 (fun j hj => by simp [hj]) (fun j hj => by rcases List.mem_append.1 hj with h | h <;> simp [h]) (fun j hj h => by
      rcases List.mem_append.1 hj with h' | h'
      · exact hN0.2.2 j h' j (by simp [h]) rfl
      · exact hN.2.2 j h j h' rfl) (List.nodup_append.2 ⟨hN0.1, hN.2.1, fun x hx y hy e => by subst e; exact hN0.2.2 x hx x (by simp [hy]) rfl⟩) (fun S2 u Fx' hn hm hL => by
      refine ⟨Fb ++ (Fx' ++ Fd), ?_, fun j => by simp only [List.mem_append]; grind, fun h1 h2 => ?_⟩
      · simp only [setP, HN]
        exact ⟨vb, vk, vd, Fb, Fx', Fd, he, hf1.frame hn (fun j hj => hm j (by simp [hj])), hf2, rfl, hL, hd.mono hn (fun j hj => hm j (by simp [hj])) (fun cs G hG h => HC.frame hn _ h fun j hj => hm j (by simp [hG j hj]))⟩
      · refine List.nodup_append.2 ⟨hN0.1, List.nodup_append.2 ⟨h1, hN.2.1, fun x hx y hy e => by subst e; exact h2 x hx (by simp [hy])⟩, fun x hx y hy e => ?_⟩
        subst e
        rcases List.mem_append.1 hy with h | h
        · exact h2 x h (by simp [hx])
        · exact hN0.2.2 x hx x (by simp [h]) rfl)
    refine ⟨a, Fz, m, r1, r2, r3, r4, fun cs' c hc ht => ?_⟩
    rw [hmb] at hc; cases hc
    rw [← ht, htake, he, r5]; rfl
end Go.Proofs.YtmkmakokgfigoaaDoor
namespace Go.Proofs.YtmkmakokgfigoaaDoor
open Go.Proofs.YtmkmakokgfigoaaDoor.VM Go.RowKit
set_option maxRecDepth 100000
set_option linter.unusedVariables false
set_option linter.unusedSimpArgs false
set_option maxHeartbeats 4000000
/-! step and find, over written trees. -/
/-- What step tells of a written node's cells c. -/
def StepR (x : Pl) (k : Int) (c : List AV) (r : AV) : Prop :=
  (wayQ x k = none → r = .tuple [.nul, .bool false]) ∧ ∀ q i, wayQ x k = some (q, i) → ∃ a n, r = .tuple [.ptr a (i * 9), .bool true] ∧ c[if q then 7 else 8]? = some (.hnd a 0 n 9)
theorem stepR_none {x : Pl} {k : Int} {c : List AV} (h : wayQ x k = none) : StepR x k c (.tuple [.nul, .bool false]) := ⟨fun _ => rfl, fun q i h' => by rw [h] at h'; cases h'⟩
theorem stepR_some {x : Pl} {k : Int} {c : List AV} {q : Bool} {i a n : Nat} {r : AV} (h : wayQ x k = some (q, i)) (hr : r = .tuple [.ptr a (i * 9), .bool true]) (hc : c[if q then 7 else 8]? = some (.hnd a 0 n 9)) : StepR x k c r := by
  refine ⟨fun h' => (by rw [h] at h'; cases h'), fun q' i' h' => ?_⟩
  rw [h] at h'; cases h'
  exact ⟨a, n, hr, hc⟩
theorem t44p (x : Pl) (F : List Nat) (b off : Nat) (k : Int) (h1 : -2 ^ 63 ≤ k) (h2 : k < 2 ^ 63) (S : St) (cs c : List AV) (hc : S.cells b = some cs) (hn : HN S x c F) (hg : ∀ j, j < 9 → cs[off + j]? = c[j]?) :
    CallQ Tryd.prog TC 44 [.ptr b off, .int .i64 k] S fun r S1 => S1 = S ∧ StepR x k c r := by
  obtain ⟨kind, n, neg, dg, ex, tx, bs, keys, kids⟩ := x
  simp only [HN] at hn
  obtain ⟨vb, vk, vd, Fb, Fk, Fd, rfl, hf1, hf2, rfl, hk, hd⟩ := hn
  have g0 : cs[off + 0]? = some (.int .i64 kind) := hg 0 (by decide)
  have g7 : cs[off + 7]? = some vk := hg 7 (by decide)
  have g8 : cs[off + 8]? = some vd := hg 8 (by decide)
  have ek : (vk = .nils ∧ keys.length = 0) ∨ ((∃ a, vk = .hnd a 0 keys.length 9) ∧ keys.length ≤ 2 ^ 47) := by
    rcases hk with ⟨h, h', _⟩ | ⟨a, _, _, _, _, hl, h, _⟩
    · exact .inl ⟨h, h'⟩
    · exact .inr ⟨⟨a, h⟩, hl⟩
  have ed : (vd = .nils ∧ kids.length = 0) ∨ ((∃ a, vd = .hnd a 0 kids.length 9) ∧ kids.length ≤ 2 ^ 47) := by
    rcases hd with ⟨h, h', _⟩ | ⟨a, _, _, _, _, hl, h, _⟩
    · exact .inl ⟨h, h'⟩
    · exact .inr ⟨⟨a, h⟩, hl⟩
  have non : wayP kind keys.length kids.length k = none → StepR (.mk kind n neg dg ex tx bs keys kids) k [AV.int .i64 kind, .int .u64 n, .bool neg, .str dg, .int .i64 ex, .str tx, vb, vk, vd] (.tuple [.nul, .bool false]) := fun h => stepR_none h
  have som : ∀ q i a m, wayP kind keys.length kids.length k = some (q, i) → [AV.int .i64 kind, .int .u64 n, .bool neg, .str dg, .int .i64 ex, .str tx, vb, vk, vd][if q then 7 else 8]? = some (.hnd a 0 m 9) →
      StepR (.mk kind n neg dg ex tx bs keys kids) k [AV.int .i64 kind, .int .u64 n, .bool neg, .str dg, .int .i64 ex, .str tx, vb, vk, vd] (.tuple [.ptr a (i * 9), .bool true]) := fun q i a m h h' => stepR_some h rfl h'
  clear hg hk hd
  have hdec : ∀ (p : Option (Bool × Nat)), p = wayP kind keys.length kids.length k → wayP kind keys.length kids.length k = p := fun p h => h.symm
  rcases ek with ⟨rfl, ek⟩ | ⟨⟨ak, rfl⟩, ek⟩ <;> rcases ed with ⟨rfl, ed⟩ | ⟨⟨ad, rfl⟩, ed⟩
  all_goals
    refine CallQ.of rfl (by kernel_rfl : Tryd.prog.funcs[44]? = some Tryd.f44) rfl (by decide) ?_
    conv => whnf
    refine ⟨_, hc, partF_of g8 ?_⟩
    conv => whnf
    refine ⟨_, hc, partF_of g0 ?_⟩
    conv => whnf
    refine brEq (fun h8 => ?_) (fun h8 => ?_)
    · conv => whnf
      refine ⟨by decide, ?_⟩
      conv => whnf
      refine brEq (fun hm => ?_) (fun hm => ?_)
      · conv => whnf
        refine ⟨_, hc, partF_of g7 ?_⟩
        conv => whnf
        refine br (fun hneg => ?_) (fun hneg => ?_)
        · conv => whnf
          exact ⟨rfl, non (by unfold wayP; rw [if_pos (by omega)])⟩
        have hp : 0 ≤ k := by omega
        rw [odd hp] at hm
        conv => whnf
        refine ⟨by decide, ?_⟩
        rw [half hp h2]
        conv => whnf
        refine br (fun hx => by exfalso; omega) (fun _ => ?_)
        conv => whnf
        refine br (fun hx => ?_) (fun hx => ?_)
        · conv => whnf
          exact ⟨rfl, non (by unfold wayP; rw [if_neg (by omega), if_pos h8, if_pos hm, if_neg (by omega)])⟩
        first
          | (exfalso; omega)
          | (conv => whnf
             refine ⟨by omega, by omega, ?_⟩
             conv => whnf
             refine ⟨rfl, ?_⟩
             rw [Nat.zero_add]
             exact som true _ _ _ (by unfold wayP; rw [if_neg (by omega), if_pos h8, if_pos hm, if_pos (by omega)]) rfl)
      · conv => whnf
        refine br (fun hneg => ?_) (fun hneg => ?_)
        · conv => whnf
          exact ⟨rfl, non (by unfold wayP; rw [if_pos (by omega)])⟩
        have hp : 0 ≤ k := by omega
        rw [odd hp] at hm
        conv => whnf
        refine ⟨by decide, ?_⟩
        rw [half hp h2]
        conv => whnf
        refine br (fun hx => by exfalso; omega) (fun _ => ?_)
        conv => whnf
        refine br (fun hx => ?_) (fun hx => ?_)
        · conv => whnf
          exact ⟨rfl, non (by unfold wayP; rw [if_neg (by omega), if_pos h8, if_neg hm, if_neg (by omega)])⟩
        first
          | (exfalso; omega)
          | (conv => whnf
             refine ⟨by omega, by omega, ?_⟩
             conv => whnf
             refine ⟨rfl, ?_⟩
             rw [Nat.zero_add]
             exact som false _ _ _ (by unfold wayP; rw [if_neg (by omega), if_pos h8, if_neg hm, if_pos (by omega)]) rfl)
    · have tail : (kind = 7 ∨ kind = 9) ∨ ¬ (kind = 7 ∨ kind = 9) := Classical.em _
      conv => whnf
      refine brEq (fun h7 => ?_) (fun h7 => ?_)
      · conv => whnf
        refine br (fun hx => ?_) (fun hx => ?_)
        · conv => whnf
          exact ⟨rfl, non (by unfold wayP; rw [if_pos (by omega)])⟩
        conv => whnf
        refine br (fun hy => ?_) (fun hy => ?_)
        · conv => whnf
          exact ⟨rfl, non (by unfold wayP; rw [if_neg (by omega), if_neg h8, if_pos (.inl h7), if_neg (by omega)])⟩
        first
          | (exfalso; omega)
          | (conv => whnf
             refine ⟨by omega, by omega, ?_⟩
             conv => whnf
             refine ⟨rfl, ?_⟩
             rw [Nat.zero_add]
             exact som false _ _ _ (by unfold wayP; rw [if_neg (by omega), if_neg h8, if_pos (.inl h7), if_pos (by omega)]) rfl)
      conv => whnf
      refine brEq (fun h9 => ?_) (fun h9 => ?_)
      · conv => whnf
        refine br (fun hx => ?_) (fun hx => ?_)
        · conv => whnf
          exact ⟨rfl, non (by unfold wayP; rw [if_pos (by omega)])⟩
        conv => whnf
        refine br (fun hy => ?_) (fun hy => ?_)
        · conv => whnf
          exact ⟨rfl, non (by unfold wayP; rw [if_neg (by omega), if_neg h8, if_pos (.inr h9), if_neg (by omega)])⟩
        first
          | (exfalso; omega)
          | (conv => whnf
             refine ⟨by omega, by omega, ?_⟩
             conv => whnf
             refine ⟨rfl, ?_⟩
             rw [Nat.zero_add]
             exact som false _ _ _ (by unfold wayP; rw [if_neg (by omega), if_neg h8, if_pos (.inr h9), if_pos (by omega)]) rfl)
      conv => whnf
      refine ⟨rfl, non ?_⟩
      unfold wayP
      by_cases hneg : k < 0
      · rw [if_pos hneg]
      · rw [if_neg hneg, if_neg h8, if_neg (by omega)]
/-- What find tells. -/
def FindR (S : St) (b0 off0 : Nat) (x0 : Pl) (F0 : List Nat) (ps : List Int) (r : AV) : Prop :=
  (findP x0 ps = none → r = .tuple [.nul, .int .i64 19]) ∧ ∀ z, findP x0 ps = some z → ∃ b off F g, r = .tuple [.ptr b off, .int .i64 0] ∧ Loc S b off z F ∧ Back S b0 off0 F0 b off F g ∧ ∀ y, putP x0 ps y = some (g y)
theorem t33p (x : Pl) (F : List Nat) (b off : Nat) (S : St) (hx : Loc S b off x F) (hF : F.Nodup) (hb : b ∉ F) (ps : List Int) (fp : Sl) (hf : fp = .nil → ps = []) (hp : PsOk ps) (hl : ps.length ≤ 2 ^ 62) :
    CallQ Tryd.prog TC 33 [.ptr b off, slV fp (ps.map pI)] S fun r S1 => S1 = S ∧ FindR S b off x F ps r := by
  refine CallQ.of rfl (by kernel_rfl : Tryd.prog.funcs[33]? = some Tryd.f33) rfl (by decide) ?_
  rcases fp with _ | tp
  · obtain rfl := hf rfl
    conv => whnf
    refine CodeQ.loop (fun (i : Nat) => pat 27 [(0, .ptr b off), (11, .int .i64 0), (12, .int .i64 0)]) (fun m i S1 => S1 = S) ?_ 0 0 _ _ rfl ⟨rfl, rfl, rfl, trivial⟩
    rintro m i S1 d rfl
    conv => whnf
    refine br (fun h => by exfalso; omega) (fun _ => ?_)
    conv => whnf
    exact ⟨rfl, And.intro (fun h => by cases h) (fun z hz => by cases hz; exact ⟨b, off, F, id, rfl, hx, back_here hx hb, fun y => rfl⟩)⟩
  · conv => whnf
    refine CodeQ.loop (fun (q : Nat × Nat × Nat) => pat 27 [(0, .ptr q.2.1 q.2.2), (10, .lst (ps.map pI) tp), (11, .int .i64 ps.length), (12, .int .i64 q.1)])
      (fun m q S1 => S1 = S ∧ q.1 + m = ps.length ∧ ∃ y G g, Loc S q.2.1 q.2.2 y G ∧ G.Nodup ∧ q.2.1 ∉ G ∧ Back S b off F q.2.1 q.2.2 G g ∧ findP x ps = findP y (ps.drop q.1) ∧ ∀ u, putP x ps u = (putP y (ps.drop q.1) u).map g) ?_ ps.length (0, b, off) _ _
      ⟨rfl, by simp, x, F, id, hx, hF, hb, back_here hx hb, rfl, fun u => by simp⟩ ⟨rfl, rfl, by simp, rfl, trivial⟩
    rintro m ⟨i, p, o⟩ S1 d ⟨rfl, hi, y, G, g, hy, hG, hpG, hB, hfi, hpu⟩
    dsimp only at *
    conv => whnf
    refine br (fun h => ?_) (fun h => ?_)
    rotate_left
    · have hd : ps.drop i = [] := List.drop_eq_nil_iff.2 (by omega)
      rw [hd] at hfi hpu
      conv => whnf
      refine ⟨rfl, And.intro (fun h => by rw [hfi] at h; cases h) (fun z hz => ?_)⟩
      rw [hfi] at hz
      cases hz
      exact ⟨p, o, G, g, rfl, hy, hB, fun u => by rw [hpu u]; rfl⟩
    · have hlt : i < ps.length := by omega
      have hk := hp ps[i] (List.getElem_mem hlt)
      have g1 : (ps.map pI)[i]? = some (.int .i64 ps[i]) := by simp [hlt, pI]
      have hdr := drop_cons hlt
      conv => whnf
      refine ⟨by omega, _, g1, rfl, ?_⟩
      conv => whnf
      obtain ⟨cs, c, hc, hn, hcl, hct, hcg⟩ := hy.get
      refine CallQ.mono (t44p y G p o ps[i] hk.1 hk.2 S1 cs c hc hn hcg) ?_
      rintro r S2 ⟨rfl, hr1, hr2⟩
      rw [hdr] at hfi hpu
      cases hw : wayQ y ps[i] with
      | none =>
        obtain rfl := hr1 hw
        conv => whnf
        have hno : findP x ps = none := by rw [hfi]; simp only [findP, hw, Option.bind_none]
        exact ⟨rfl, And.intro (fun _ => rfl) (fun z hz => by rw [hno] at hz; cases hz)⟩
      | some w =>
        obtain ⟨q, j⟩ := w
        obtain ⟨a, n, rfl, hca⟩ := hr2 q j hw
        obtain ⟨z, hz⟩ := way_kid hw
        have hmem : S2.mem p = some (.cells cs) := by
          obtain ⟨cs', _, _, _, h1, _⟩ := hy
          have : S2.cells p = some cs' := by unfold St.cells; rw [h1]
          rw [this] at hc
          cases hc
          exact h1
        obtain ⟨a', Fz, n', l1, l2, l3, l4, l5⟩ := back_kid hy hG hb hB hz
        have := l5 cs c hmem hct
        rw [hca] at this
        obtain ⟨rfl⟩ : a = a' := by cases this; rfl
        conv => whnf
        refine ⟨m - 1, (i + 1, a, j * 9), by omega, ⟨rfl, by dsimp only; omega, z, Fz, _, l1, l2, l3, l4, ?_, fun u => ?_⟩, ⟨rfl, rfl, rfl, ?_, trivial⟩⟩
        · rw [hfi]; simp only [findP, hw, Option.bind_some, hz]
        · rw [hpu u]; simp only [putP, hw, Option.bind_some, hz, Option.map_map]; rfl
        · rw [wrap_i64 (by omega) (by omega)]; rfl
end Go.Proofs.YtmkmakokgfigoaaDoor
namespace Go.Proofs.YtmkmakokgfigoaaDoor
open Go.Proofs.YtmkmakokgfigoaaDoor.VM Go.RowKit
set_option maxRecDepth 100000
set_option linter.unusedVariables false
set_option linter.unusedSimpArgs false
set_option maxHeartbeats 4000000
/-! Put. -/
theorem sets_len : ∀ (d cs : List AV) (off : Nat), (setsA cs off d).length = cs.length
  | [], cs, off => rfl
  | x :: d, cs, off => by
    show (setsA (cs.set off x) (off + 1) d).length = _
    rw [sets_len d]; simp
/-- What Put answers, in written arrays. -/
def PutH (x : Nd) (ps : List Int) (y : Nd) (S : St) (r : AV) (S1 : St) : Prop :=
  ((few x = false ∨ few y = false) ∧ r = .tuple [zN.v, .int .i64 8]) ∨ (few x = true ∧ few y = true ∧ putP (er x) ps (er y) = none ∧ r = .tuple [zN.v, .int .i64 19]) ∨
    (few x = true ∧ few y = true ∧ ∃ u cs F, putP (er x) ps (er y) = some u ∧ HN S1 u cs F ∧ F.Nodup ∧ (∀ j ∈ F, S.next ≤ j) ∧ S.next + pdep u ≤ S1.next ∧ r = .tuple [.agg cs, .int .i64 0])
theorem t23 (x : Nd) (hx : x.Ok) (ps : List Int) (fp : Sl) (hf : fp = .nil → ps = []) (hp : PsOk ps) (hl : ps.length ≤ 2 ^ 62) (y : Nd) (hy : y.Ok) (S : St) : CallQ Tryd.prog TC 23 [x.v, slV fp (ps.map pI), y.v] S fun r S1 => PutH x ps y S r S1 ∧ Keep S S1 := by
  have hfx := t10 x hx
  have hfy := t10 y hy
  have hox : few x = true → ∀ S, CallQ Tryd.prog TC 34 [x.v] S fun r S1 => OwnR (er x) (2 * cnt x) S r S1 := fun h => t34 1024 (by omega) x hx (by unfold few at h; simpa using h)
  have hoy : few y = true → ∀ S, CallQ Tryd.prog TC 34 [y.v] S fun r S1 => OwnR (er y) (2 * cnt y) S r S1 := fun h => t34 1024 (by omega) y hy (by unfold few at h; simpa using h)
  have hR : ∀ r S1, PutH x ps y S r S1 = (((few x = false ∨ few y = false) ∧ r = .tuple [zN.v, .int .i64 8]) ∨ (few x = true ∧ few y = true ∧ putP (er x) ps (er y) = none ∧ r = .tuple [zN.v, .int .i64 19]) ∨
    (few x = true ∧ few y = true ∧ ∃ u cs F, putP (er x) ps (er y) = some u ∧ HN S1 u cs F ∧ F.Nodup ∧ (∀ j ∈ F, S.next ≤ j) ∧ S.next + pdep u ≤ S1.next ∧ r = .tuple [.agg cs, .int .i64 0])) := fun r S1 => rfl
  have hdx : pdep (er x) ≤ cnt x := by rw [er_pdep]; exact dep_cnt x
  have hdy : pdep (er y) ≤ cnt y := by rw [er_pdep]; exact dep_cnt y
  simp only [hR]
  generalize few x = fx at *
  generalize few y = fy at *
  generalize cnt x = cx at *
  generalize cnt y = cy at *
  generalize er x = X at *
  generalize er y = Y at *
  clear hR
  obtain ⟨kind, n, neg, dg, ex, tx, fb, bs, fk, keys, fd, kids⟩ := x
  obtain ⟨kind', n', neg', dg', ex', tx', fb', bs', fk', keys', fd', kids'⟩ := y
  obtain ⟨PS, hPS⟩ : ∃ PS, PS = slV fp (ps.map pI) := ⟨_, rfl⟩
  have hfind := fun (F : List Nat) (b off : Nat) (S : St) (h : Loc S b off X F) h2 h3 => t33p X F b off S h h2 h3 ps fp hf hp hl
  rw [← hPS] at hfind ⊢
  have hPSv : PS = .nils ∨ ∃ l t, PS = .lst l t := by
    rw [hPS]; cases fp with
    | nil => exact .inl rfl
    | lst t => exact .inr ⟨_, t, rfl⟩
  clear hPS
  rcases hPSv with rfl | ⟨l, t, rfl⟩
  all_goals
    refine CallQ.of rfl (by kernel_rfl : Tryd.prog.funcs[23]? = some Tryd.f23) rfl (by decide) ?_
    conv => whnf
    have hdn : ∀ b, (S.new b).next = S.next + 1 := fun _ => rfl
    rw [hdn]
    generalize hS1 : (S.new _).new _ = S1
    have k1 : Keep S S1 := by rw [← hS1]; exact ((Keep.refl S).new _).new _
    have a1 := (congrArg (fun s => s.cells S.next) hS1).symm.trans (cells_new_ne (cells_new _ _) (by show S.next ≠ S.next + 1; omega))
    have a2 : S1.cells (S.next + 1) = some zN.cs := by rw [← hS1]; exact cells_new _ _
    have n1 : S1.next = S.next + 2 := by rw [← hS1]; rfl
    clear hS1
    refine ⟨_, a1, ?_⟩
    conv => whnf
    refine CallQ.mono (hfx S1) ?_
    rintro r S2 ⟨rfl, k2⟩
    have n2 := k2.next
    have b1 := (cells_keep k2 (j := S.next) (by omega)).trans a1
    have b2 := (cells_keep k2 (j := S.next + 1) (by omega)).trans a2
    cases fx
    · conv => whnf
      refine ⟨_, _, b2, store_agg rfl rfl rfl, ?_⟩
      conv => whnf
      refine ⟨AV.agg zN.cs, ?_, ?_⟩
      · show (St.cells _ (S.next + 1)).bind _ = _
        rw [cells_set]; rfl
      conv => whnf
      exact ⟨.inl ⟨.inl rfl, rfl⟩, (k1.trans k2).set _ _ (by omega)⟩
    conv => whnf
    refine CallQ.mono (hfy S2) ?_
    rintro r S3 ⟨rfl, k3⟩
    have n3 := k3.next
    have c1 := (cells_keep k3 (j := S.next) (by omega)).trans b1
    have c2 := (cells_keep k3 (j := S.next + 1) (by omega)).trans b2
    cases fy
    · conv => whnf
      refine ⟨_, _, c2, store_agg rfl rfl rfl, ?_⟩
      conv => whnf
      refine ⟨AV.agg zN.cs, ?_, ?_⟩
      · show (St.cells _ (S.next + 1)).bind _ = _
        rw [cells_set]; rfl
      conv => whnf
      exact ⟨.inl ⟨.inr rfl, rfl⟩, ((k1.trans k2).trans k3).set _ _ (by omega)⟩
    conv => whnf
    refine ⟨_, c1, ?_⟩
    conv => whnf
    refine CallQ.mono (hox rfl S3) ?_
    rintro r S4 ⟨cs, F, rfl, hn, hnd, hF, k4, m4⟩
    have n4 := k4.next
    have d1 := (cells_keep k4 (j := S.next) (by omega)).trans c1
    have d2 := (cells_keep k4 (j := S.next + 1) (by omega)).trans c2
    obtain ⟨hl9, hlf, _⟩ := hn_cells hn
    have hlt := HN.lt _ hn
    obtain ⟨CS, hCS⟩ : ∃ CS, CS = cs := ⟨_, rfl⟩
    rw [← hCS] at hn
    obtain ⟨q0, q1, q2, q3, q4, q5, q6, q7, q8, rfl⟩ : ∃ c0 c1 c2 c3 c4 c5 c6 c7 c8, cs = [c0, c1, c2, c3, c4, c5, c6, c7, c8] := by
      match cs, hl9 with
      | [x0, x1, x2, x3, x4, x5, x6, x7, x8], _ => exact ⟨x0, x1, x2, x3, x4, x5, x6, x7, x8, rfl⟩
    conv => whnf
    refine ⟨_, _, d1, store_agg rfl rfl hlf, ?_⟩
    conv => whnf
    generalize hS5 : S4.set S.next _ = S5
    have m5 : S5.mem S.next = some (.cells CS) := by rw [← hS5, hCS]; exact mem_set _ _ _
    have m5' : ∀ j, j ≠ S.next → S5.mem j = S4.mem j := fun j hj => by rw [← hS5]; exact set_ne hj
    have n5 : S5.next = S4.next := by rw [← hS5]; rfl
    have e2 : S5.cells (S.next + 1) = some zN.cs := by rw [← hS5]; exact cells_set_ne d2 (by omega)
    clear hS5
    have hFne : ∀ j ∈ F, j ≠ S.next ∧ j ≠ S.next + 1 := fun j hj => by have := hF j hj; omega
    have hLoc : Loc S5 S.next 0 X F := ⟨CS, [], CS, [], m5, by simp, rfl, HN.frame (by omega) _ hn fun j hj => m5' j (hFne j hj).1⟩
    have hSF : S.next ∉ F := fun h => (hFne _ h).1 rfl
    refine CallQ.mono (hfind F S.next 0 S5 hLoc hnd hSF) ?_
    rintro r S6 ⟨rfl, hr1, hr2⟩
    have kS6 : Keep S S6 := ⟨by omega, fun j hj => by rw [m5' j (by omega), k4.mem j (by omega), k3.mem j (by omega), k2.mem j (by omega), k1.mem j hj]⟩
    cases hfd : findP X ps with
    | none =>
      obtain rfl := hr1 hfd
      have hpn : putP X ps Y = none := by
        have := put_find (ps := ps) (x := X) (y := Y)
        rw [hfd] at this
        simpa using this
      conv => whnf
      refine brNe (fun _ => ?_) (fun h => by cases h)
      conv => whnf
      refine ⟨_, _, e2, store_agg rfl rfl rfl, ?_⟩
      conv => whnf
      refine ⟨AV.agg zN.cs, ?_, ?_⟩
      · show (St.cells _ (S.next + 1)).bind _ = _
        rw [cells_set]; rfl
      conv => whnf
      exact ⟨.inr (.inl ⟨rfl, rfl, hpn, rfl⟩), kS6.set _ _ (by omega)⟩
    | some z =>
      obtain ⟨b, off, Fz, g, rfl, hLz, ⟨hbb, hbF, hFF, hput⟩, hpu⟩ := hr2 z hfd
      conv => whnf
      refine brNe (fun h => absurd rfl h) (fun _ => ?_)
      conv => whnf
      refine CallQ.mono (hoy rfl S6) ?_
      rintro r S7 ⟨ds, G, rfl, hgn, hgd, hG, k7, m7⟩
      have n7 := k7.next
      obtain ⟨hl9', hlf', _⟩ := hn_cells hgn
      have hglt := HN.lt _ hgn
      obtain ⟨cb, cc, hcb, hbn, hbl, _, _⟩ := hLz.get
      have hbm : S6.mem b = some (.cells cb) := by
        obtain ⟨cs', _, _, _, h1, _⟩ := hLz
        have : S6.cells b = some cs' := by unfold St.cells; rw [h1]
        rw [this] at hcb
        cases hcb
        exact h1
      have hb6 : b < S6.next := by
        rcases hbb with rfl | h
        · omega
        · have := hlt b h; omega
      have hcb7 : S7.cells b = some cb := (cells_keep k7 hb6).trans hcb
      have hb1 : b ≠ S.next + 1 := by
        rcases hbb with rfl | h
        · omega
        · exact (hFne b h).2
      have hbS : S.next ≤ b := by
        rcases hbb with rfl | h
        · omega
        · have := hF b h; omega
      obtain ⟨F', hL', hnd', hsub'⟩ := hput S7 Y ds G cb (by omega) (fun j h1 h2 => k7.mem j (by rcases h1 with rfl | h1; omega; have := hlt j h1; omega)) hbm hgn hgd (fun j hj => by
        have := hG j hj
        refine ⟨fun h => by have := hlt j h; omega, by omega, by omega⟩)
      have hCS9 : CS.length = 9 := by rw [hCS]; rfl
      obtain ⟨DS, hDS⟩ : ∃ DS, DS = ds := ⟨_, rfl⟩
      rw [← hDS] at hL'
      obtain ⟨p0, p1, p2, p3, p4, p5, p6, p7, p8, rfl⟩ : ∃ c0 c1 c2 c3 c4 c5 c6 c7 c8, ds = [c0, c1, c2, c3, c4, c5, c6, c7, c8] := by
        match ds, hl9' with
        | [x0, x1, x2, x3, x4, x5, x6, x7, x8], _ => exact ⟨x0, x1, x2, x3, x4, x5, x6, x7, x8, rfl⟩
      conv => whnf
      refine ⟨_, _, hcb7, if_pos ⟨rfl, hlf', hbl⟩, ?_⟩
      conv => whnf
      generalize hS8 : S7.set b _ = S8
      have hS8' : S7.set b (some (.cells (setsA cb off DS))) = S8 := by rw [hDS]; exact hS8
      rw [hS8'] at hL'
      have n8 : S8.next = S7.next := by rw [← hS8]; rfl
      have m8 : ∀ j, j ≠ b → S8.mem j = S7.mem j := fun j hj => by rw [← hS8]; exact set_ne hj
      obtain ⟨ce, e0, e1, e9, hme, hce, heo, hen⟩ := hL'
      have hce9 : ce.length = 9 := by
        by_cases hbe : b = S.next
        · rw [← hS8', hbe, mem_set] at hme
          cases hme
          rw [hbe, m5] at hbm
          cases hbm
          rw [sets_len]; exact hCS9
        · rw [m8 _ (Ne.symm hbe), k7.mem _ (by omega), m5] at hme
          cases hme
          exact hCS9
      have he1 := (hn_cells hen).1
      obtain rfl : e0 = [] := List.length_eq_zero_iff.1 heo
      obtain rfl : e9 = [] := List.length_eq_zero_iff.1 (by rw [hce] at hce9; simp at hce9; omega)
      obtain rfl : ce = e1 := by rw [hce]; simp
      clear hce heo
      have f1 : S8.cells S.next = some ce := by unfold St.cells; rw [hme]
      have f2 : S8.cells (S.next + 1) = some zN.cs := by
        unfold St.cells; rw [m8 _ (Ne.symm hb1), k7.mem _ (by omega)]; exact e2
      have kS8 : Keep S S8 := ⟨by omega, fun j hj => by rw [m8 j (by omega), k7.mem j (by omega)]; exact kS6.mem j hj⟩
      clear hS8 hS8' hput hbm hcb hcb7
      obtain ⟨_, hlfe, _⟩ := hn_cells hen
      have hF'ne : ∀ j ∈ F', j ≠ S.next + 1 ∧ S.next ≤ j := fun j hj => by
        rcases hsub' j hj with h | h
        · have := hF j h; omega
        · have := hG j h; omega
      have hpd := @put_dep ps X Y _ (hpu Y)
      have hshe := (hn_cells hen).2.2
      obtain ⟨CE, hCE⟩ : ∃ CE, CE = ce := ⟨_, rfl⟩
      rw [← hCE] at hen
      obtain ⟨r0, r1, r2, r3, r4, r5, r6, r7, r8, rfl⟩ : ∃ c0 c1 c2 c3 c4 c5 c6 c7 c8, ce = [c0, c1, c2, c3, c4, c5, c6, c7, c8] := by
        match ce, hce9 with
        | [x0, x1, x2, x3, x4, x5, x6, x7, x8], _ => exact ⟨x0, x1, x2, x3, x4, x5, x6, x7, x8, rfl⟩
      refine ⟨_, f1, ?_⟩
      conv => whnf
      refine ⟨_, _, f2, store_agg rfl rfl hlfe, ?_⟩
      conv => whnf
      refine ⟨AV.agg [r0, r1, r2, r3, r4, r5, r6, r7, r8], ?_, ?_⟩
      · show (St.cells _ (S.next + 1)).bind _ = _
        rw [cells_set]; rfl
      conv => whnf
      refine ⟨.inr (.inr ⟨rfl, rfl, g Y, CE, F', hpu Y, HN.frame (S := S8) (S1 := S8.set (S.next + 1) _) (Nat.le_refl S8.next) _ hen fun j hj => set_ne (hF'ne j hj).1, hnd', fun j hj => (hF'ne j hj).2, by show _ ≤ S8.next; omega, ?_⟩), kS8.set (S.next + 1) _ (by omega)⟩
      rw [hCE]
      show AV.tuple [AV.shed (.agg _), _] = _
      show AV.tuple [AV.agg (List.map AV.shedLeaf _), _] = _
      rw [hshe]; rfl
end Go.Proofs.YtmkmakokgfigoaaDoor
