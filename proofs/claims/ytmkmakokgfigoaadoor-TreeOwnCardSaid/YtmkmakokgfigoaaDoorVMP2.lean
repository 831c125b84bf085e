import Derived.Test.YtmkmakokgfigoaaDoorVMO20
namespace Go.Proofs.YtmkmakokgfigoaaDoor
open Go.Proofs.YtmkmakokgfigoaaDoor.VM Go.RowKit
set_option maxRecDepth 100000
set_option linter.unusedVariables false
set_option linter.unusedSimpArgs false
set_option maxHeartbeats 1000000
mutual
def pdep : Pl → Nat
  | .mk _ _ _ _ _ _ _ keys kids => 1 + max (pdeps keys) (pdeps kids)
def pdeps : List Pl → Nat
  | [] => 0
  | x :: xs => max (pdep x) (pdeps xs)
end
mutual
theorem er_pdep : ∀ x : Nd, pdep (er x) = dep x
  | .mk _ _ _ _ _ _ _ _ _ keys _ kids => by simp only [er, pdep, dep, ers_pdeps keys, ers_pdeps kids]
theorem ers_pdeps : ∀ xs : List Nd, pdeps (ers xs) = deps xs
  | [] => rfl
  | x :: xs => by simp only [ers, pdeps, deps, er_pdep x, ers_pdeps xs]
end
theorem len_ers (xs : List Nd) : (ers xs).length = xs.length := by rw [ers_map]; simp
/-! Trees in written arrays of their own. -/
/-- A written list (or none): its cells, and the names of what is in it. -/
def HL (P : List AV → List Nat → Prop) (n : Nat) (S : St) (v : AV) (F : List Nat) : Prop :=
  (v = .nils ∧ n = 0 ∧ F = []) ∨ ∃ a cs G, F = a :: G ∧ a < S.next ∧ n ≤ 2 ^ 47 ∧ v = .hnd a 0 n 9 ∧ S.mem a = some (.cells cs) ∧ P cs G
/-- Written bytes (or none). -/
def HB (S : St) (bs : List UInt8) (v : AV) (F : List Nat) : Prop := (v = .nils ∧ bs = [] ∧ F = []) ∨ ∃ b, F = [b] ∧ b < S.next ∧ v = .hnd b 0 bs.length 1 ∧ S.mem b = some (.cells (bs.map u8))
mutual
/-- A node's nine cells. -/
def HN (S : St) : Pl → List AV → List Nat → Prop
  | .mk kind n neg dg ex tx bs keys kids, cs, F => ∃ (vb vk vd : AV) (Fb Fk Fd : List Nat),
      cs = [.int .i64 kind, .int .u64 n, .bool neg, .str dg, .int .i64 ex, .str tx, vb, vk, vd] ∧ HB S bs vb Fb ∧ bs.length ≤ 2 ^ 47 ∧ F = Fb ++ (Fk ++ Fd) ∧
      HL (fun cs G => HC S keys cs G) keys.length S vk Fk ∧ HL (fun cs G => HC S kids cs G) kids.length S vd Fd
def HC (S : St) : List Pl → List AV → List Nat → Prop
  | [], cs, F => cs = [] ∧ F = []
  | x :: xs, cs, F => ∃ c1 c2 F1 F2, cs = c1 ++ c2 ∧ F = F1 ++ F2 ∧ HN S x c1 F1 ∧ HC S xs c2 F2
end
theorem hl_leaf {P : List AV → List Nat → Prop} {n : Nat} {S : St} {v : AV} {F : List Nat} (h : HL P n S v F) : v.leafOk = true ∧ v.shedLeaf = v := by
  rcases h with ⟨rfl, _⟩ | ⟨a, cs, G, _, _, _, rfl, _⟩ <;> exact ⟨rfl, rfl⟩
theorem hb_leaf {S : St} {bs : List UInt8} {v : AV} {F : List Nat} (h : HB S bs v F) : v.leafOk = true ∧ v.shedLeaf = v := by
  rcases h with ⟨rfl, _⟩ | ⟨b, _, _, rfl, _⟩ <;> exact ⟨rfl, rfl⟩
theorem HB.frame {S S1 : St} {bs : List UInt8} {v : AV} {F : List Nat} (h : HB S bs v F) (hn : S.next ≤ S1.next) (hm : ∀ j ∈ F, S1.mem j = S.mem j) : HB S1 bs v F := by
  rcases h with h | ⟨b, rfl, h1, rfl, h2⟩
  · exact .inl h
  · exact .inr ⟨b, rfl, by omega, rfl, by rw [hm b (by simp)]; exact h2⟩
theorem HB.lt {S : St} {bs : List UInt8} {v : AV} {F : List Nat} (h : HB S bs v F) : ∀ j ∈ F, j < S.next := by
  rcases h with ⟨_, _, rfl⟩ | ⟨b, rfl, h1, _⟩
  · intro j hj; cases hj
  · intro j hj; rw [List.mem_singleton.1 hj]; exact h1
theorem HB.nodup {S : St} {bs : List UInt8} {v : AV} {F : List Nat} (h : HB S bs v F) : F.Nodup := by
  rcases h with ⟨_, _, rfl⟩ | ⟨b, rfl, h1, _⟩ <;> simp
theorem hn_cells {S : St} {x : Pl} {cs : List AV} {F : List Nat} (h : HN S x cs F) : cs.length = 9 ∧ cs.all AV.leafOk = true ∧ cs.map AV.shedLeaf = cs := by
  obtain ⟨kind, n, neg, dg, ex, tx, bs, keys, kids⟩ := x
  simp only [HN] at h
  obtain ⟨vb, vk, vd, Fb, Fk, Fd, rfl, hb, _, _, hk, hd⟩ := h
  have h0 := hb_leaf hb
  have h1 := hl_leaf hk
  have h2 := hl_leaf hd
  refine ⟨rfl, ?_, ?_⟩
  · simp only [List.all_cons, List.all_nil, h0.1, h1.1, h2.1]; rfl
  · simp only [List.map_cons, List.map_nil, h0.2, h1.2, h2.2]; rfl
theorem hc_len {S : St} : ∀ {xs : List Pl} {cs : List AV} {F : List Nat}, HC S xs cs F → cs.length = xs.length * 9
  | [], cs, F, h => by simp only [HC] at h; rw [h.1]; rfl
  | x :: xs, cs, F, h => by
    simp only [HC] at h
    obtain ⟨c1, c2, F1, F2, rfl, _, h1, h2⟩ := h
    have := hc_len h2
    have := (hn_cells h1).1
    simp only [List.length_append, List.length_cons]; omega
theorem hc_leaf {S : St} : ∀ {xs : List Pl} {cs : List AV} {F : List Nat}, HC S xs cs F → cs.all AV.leafOk = true
  | [], cs, F, h => by simp only [HC] at h; rw [h.1]; rfl
  | x :: xs, cs, F, h => by
    simp only [HC] at h
    obtain ⟨c1, c2, F1, F2, rfl, _, h1, h2⟩ := h
    rw [List.all_append, (hn_cells h1).2.1, hc_leaf h2]; rfl
theorem HL.mono {P Q : List AV → List Nat → Prop} {n : Nat} {S S1 : St} {v : AV} {F : List Nat} (h : HL P n S v F) (hn : S.next ≤ S1.next) (hm : ∀ j ∈ F, S1.mem j = S.mem j) (hpq : ∀ cs G, (∀ j ∈ G, j ∈ F) → P cs G → Q cs G) : HL Q n S1 v F := by
  rcases h with ⟨rfl, rfl, rfl⟩ | ⟨a, cs, G, rfl, h1, h1', rfl, h2, h3⟩
  · exact .inl ⟨rfl, rfl, rfl⟩
  · exact .inr ⟨a, cs, G, rfl, by omega, h1', rfl, by rw [hm a (by simp)]; exact h2, hpq cs G (fun j hj => by simp [hj]) h3⟩
mutual
theorem HN.frame {S S1 : St} (hn : S.next ≤ S1.next) : ∀ (x : Pl) {cs : List AV} {F : List Nat}, HN S x cs F → (∀ j ∈ F, S1.mem j = S.mem j) → HN S1 x cs F
  | .mk kind n neg dg ex tx bs keys kids, cs, F, h, hm => by
    simp only [HN] at h ⊢
    obtain ⟨vb, vk, vd, Fb, Fk, Fd, h1, h2, h3, rfl, hk, hd⟩ := h
    exact ⟨vb, vk, vd, Fb, Fk, Fd, h1, h2.frame hn (fun j hj => hm j (by simp [hj])), h3, rfl, hk.mono hn (fun j hj => hm j (by simp [hj])) (fun cs G hG h => HC.frame hn keys h fun j hj => hm j (by simp [hG j hj])),
      hd.mono hn (fun j hj => hm j (by simp [hj])) (fun cs G hG h => HC.frame hn kids h fun j hj => hm j (by simp [hG j hj]))⟩
theorem HC.frame {S S1 : St} (hn : S.next ≤ S1.next) : ∀ (xs : List Pl) {cs : List AV} {F : List Nat}, HC S xs cs F → (∀ j ∈ F, S1.mem j = S.mem j) → HC S1 xs cs F
  | [], cs, F, h, hm => h
  | x :: xs, cs, F, h, hm => by
    simp only [HC] at h ⊢
    obtain ⟨c1, c2, F1, F2, h1, rfl, h2, h3⟩ := h
    exact ⟨c1, c2, F1, F2, h1, rfl, HN.frame hn x h2 fun j hj => hm j (by simp [hj]), HC.frame hn xs h3 fun j hj => hm j (by simp [hj])⟩
end
mutual
theorem HN.lt {S : St} : ∀ (x : Pl) {cs : List AV} {F : List Nat}, HN S x cs F → ∀ j ∈ F, j < S.next
  | .mk kind n neg dg ex tx bs keys kids, cs, F, h, j, hj => by
    simp only [HN] at h
    obtain ⟨vb, vk, vd, Fb, Fk, Fd, h1, h2, h3, rfl, hk, hd⟩ := h
    rcases List.mem_append.1 hj with hj | hj
    · exact h2.lt j hj
    rcases List.mem_append.1 hj with hj | hj
    · rcases hk with ⟨_, _, rfl⟩ | ⟨a, cs, G, rfl, q1, _, _, _, q3⟩
      · cases hj
      · rcases List.mem_cons.1 hj with rfl | hj
        · exact q1
        · exact HC.lt keys q3 j hj
    · rcases hd with ⟨_, _, rfl⟩ | ⟨a, cs, G, rfl, q1, _, _, _, q3⟩
      · cases hj
      · rcases List.mem_cons.1 hj with rfl | hj
        · exact q1
        · exact HC.lt kids q3 j hj
theorem HC.lt {S : St} : ∀ (xs : List Pl) {cs : List AV} {F : List Nat}, HC S xs cs F → ∀ j ∈ F, j < S.next
  | [], cs, F, h, j, hj => by simp only [HC] at h; rw [h.2] at hj; cases hj
  | x :: xs, cs, F, h, j, hj => by
    simp only [HC] at h
    obtain ⟨c1, c2, F1, F2, h1, rfl, h2, h3⟩ := h
    rcases List.mem_append.1 hj with hj | hj
    · exact HN.lt x h2 j hj
    · exact HC.lt xs h3 j hj
end
theorem HL.lt {n : Nat} {S : St} {xs : List Pl} {v : AV} {F : List Nat} (h : HL (fun cs G => HC S xs cs G) n S v F) : ∀ j ∈ F, j < S.next := by
  rcases h with ⟨_, _, rfl⟩ | ⟨a, cs, G, rfl, q1, _, _, _, q3⟩
  · intro j hj; cases hj
  · intro j hj
    rcases List.mem_cons.1 hj with rfl | hj
    · exact q1
    · exact HC.lt xs q3 j hj
theorem hc_app {S : St} {ys : List Pl} {c2 : List AV} {F2 : List Nat} (h2 : HC S ys c2 F2) : ∀ {xs : List Pl} {c1 : List AV} {F1 : List Nat}, HC S xs c1 F1 → HC S (xs ++ ys) (c1 ++ c2) (F1 ++ F2)
  | [], c1, F1, h => by simp only [HC] at h; rw [h.1, h.2]; exact h2
  | x :: xs, c1, F1, h => by
    simp only [HC] at h
    obtain ⟨d1, d2, G1, G2, rfl, rfl, h3, h4⟩ := h
    rw [List.cons_append]
    simp only [HC]
    exact ⟨d1, d2 ++ c2, G1, G2 ++ F2, by simp, by simp, h3, hc_app h2 h4⟩
/-- One of the nodes, and what else is there. -/
theorem hc_at {S : St} : ∀ {xs : List Pl} {cs : List AV} {F : List Nat} {i : Nat} (hi : i < xs.length), HC S xs cs F → ∃ c1 c c2 F1 F0 F2, cs = c1 ++ (c ++ c2) ∧ c1.length = i * 9 ∧ F = F1 ++ (F0 ++ F2) ∧ HN S xs[i] c F0 ∧
    ∀ (S1 : St) (y : Pl) (d : List AV) (G : List Nat), S.next ≤ S1.next → (∀ j ∈ F1, S1.mem j = S.mem j) → (∀ j ∈ F2, S1.mem j = S.mem j) → HN S1 y d G → HC S1 (xs.set i y) (c1 ++ (d ++ c2)) (F1 ++ (G ++ F2))
  | x :: xs, cs, F, 0, _, h => by
    simp only [HC] at h
    obtain ⟨c1, c2, F1, F2, rfl, rfl, h1, h2⟩ := h
    refine ⟨[], c1, c2, [], F1, F2, rfl, by simp, rfl, h1, fun S1 y d G hn _ hm hy => ?_⟩
    simp only [List.set_cons_zero, List.nil_append, HC]
    exact ⟨d, c2, G, F2, rfl, rfl, hy, h2.frame hn xs hm⟩
  | x :: xs, cs, F, i + 1, hi, h => by
    simp only [HC] at h
    obtain ⟨c1, c2, F1, F2, rfl, rfl, h1, h2⟩ := h
    obtain ⟨d1, d, d2, G1, G0, G2, rfl, hl, rfl, h3, h4⟩ := hc_at (i := i) (by simpa using hi) h2
    have := (hn_cells h1).1
    refine ⟨c1 ++ d1, d, d2, F1 ++ G1, G0, G2, by simp, by simp; omega, by simp, by simpa using h3, fun S1 y e G hn hm1 hm2 hy => ?_⟩
    simp only [List.set_cons_succ, HC]
    exact ⟨c1, d1 ++ (e ++ d2), F1, G1 ++ (G ++ G2), by simp, by simp, h1.frame hn x fun j hj => hm1 j (by simp [hj]), h4 S1 y e G hn (fun j hj => hm1 j (by simp [hj])) hm2 hy⟩
/-! .. that are written no more. -/
theorem mapS_app {g : AV → St → Option (AV × St)} : ∀ (a b : List AV) (S : St), mapS g (a ++ b) S = (mapS g a S).bind fun r => (mapS g b r.2).map fun q => (r.1 ++ q.1, q.2)
  | [], b, S => by simp [mapS]
  | x :: a, b, S => by
    simp only [List.cons_append, mapS]
    cases g x S with
    | none => rfl
    | some r =>
      simp only [Option.bind_some, mapS_app a b r.2]
      cases mapS g a r.2 with
      | none => rfl
      | some q =>
        simp only [Option.bind_some, Option.map_some]
        cases mapS g b q.2 <;> rfl
/-- The node in lists. -/
def Lo (y : Nd) : Prop := y.Ok ∧ y.cs.map AV.shedLeaf = y.cs
def csL (ys : List Nd) : List AV := ys.flatMap Nd.cs
theorem chunk_cs : ∀ ys : List Nd, chunk true 9 ys.length (csL ys) = Nd.vs ys
  | [] => rfl
  | y :: ys => by
    have hl := cs_len y
    have h1 : csL (y :: ys) = y.cs ++ csL ys := by simp [csL]
    rw [h1, Nd.vs, v_cs]
    simp only [List.length_cons, chunk, if_true]
    rw [List.take_append_of_le_length (by omega), List.take_of_length_le (by omega), List.drop_append_of_le_length (by omega), List.drop_of_length_le (by omega), List.nil_append, chunk_cs ys]
theorem hb_frz {bs : List UInt8} {k : Nat} {S : St} {v : AV} {F : List Nat} (h : HB S bs v F) : ∃ (f : Sl) (S' : St), frzA (k + 2) v S = some (slV f (bs.map u8), S') ∧ (f = .nil → bs = []) ∧ f.lo = f ∧ S'.next = S.next ∧ ∀ j, j ∉ F → S'.mem j = S.mem j := by
  rcases h with ⟨rfl, rfl, rfl⟩ | ⟨b, rfl, h1, rfl, h2⟩
  · exact ⟨.nil, S, rfl, fun _ => rfl, rfl, rfl, fun _ _ => rfl⟩
  · refine ⟨.lst .lost, S.set b none, ?_, (fun h => Sl.noConfusion h), rfl, rfl, fun j hj => by have : j ≠ b := fun e => hj (by simp [e]); simp [St.set, upd, this]⟩
    have hid : ∀ (l : List UInt8) (S : St), mapS (frzA (k + 1)) (l.map u8) S = some (l.map u8, S) := by
      intro l
      induction l with
      | nil => intro S; rfl
      | cons c l ih =>
        intro S
        simp only [List.map_cons, mapS]
        have : frzA (k + 1) (u8 c) S = some (u8 c, S) := rfl
        rw [this]
        simp only [Option.bind_some, ih S, Option.map_some]
    unfold frzA
    simp only [h2]
    rw [if_pos (by simp), List.drop_zero, List.take_of_length_le (by simp), hid]
    simp only [Option.bind_some]
    rw [if_pos (by unfold chunkOk; rw [plain_u8]; rfl)]
    have := chunk_one (bs.map u8)
    rw [List.length_map] at this
    show some (AV.lst (chunk false 1 bs.length (bs.map u8)) Tip.lost, _) = _
    rw [this]; rfl
theorem hl_frz {xs : List Pl} {k n : Nat} {S : St} {v : AV} {F : List Nat} (h : HL (fun cs G => HC S xs cs G) n S v F) (hn : n = xs.length) (hnd : F.Nodup)
    (H : ∀ (S : St) (cs : List AV) (F : List Nat), HC S xs cs F → F.Nodup → ∃ ys S', mapS (frzA k) cs S = some (csL ys, S') ∧ ers ys = xs ∧ (∀ y ∈ ys, Lo y) ∧ S'.next = S.next ∧ ∀ j, j ∉ F → S'.mem j = S.mem j) :
    ∃ (f : Sl) (ys : List Nd) (S' : St), frzA (k + 1) v S = some (slV f (Nd.vs ys), S') ∧ ers ys = xs ∧ (f = .nil → ys = []) ∧ f.lo = f ∧ ys.length ≤ 2 ^ 47 ∧ (∀ y ∈ ys, Lo y) ∧ S'.next = S.next ∧ ∀ j, j ∉ F → S'.mem j = S.mem j := by
  subst hn
  rcases h with ⟨rfl, h0, rfl⟩ | ⟨a, cs, G, rfl, h1, h1', rfl, h2, h3⟩
  · have : xs = [] := List.length_eq_zero_iff.1 h0
    subst this
    exact ⟨.nil, [], S, rfl, rfl, fun _ => rfl, rfl, by simp, fun _ h => (List.not_mem_nil h).elim, rfl, fun _ _ => rfl⟩
  · have hng := List.nodup_cons.1 hnd
    have hl := hc_len h3
    have h4 : HC (S.set a none) xs cs G := HC.frame (S := S) (S1 := S.set a none) (Nat.le_refl S.next) xs h3 fun j hj => by
      have : j ≠ a := by rintro rfl; exact hng.1 hj
      simp [St.set, upd, this]
    obtain ⟨ys, S', q1, q2, q3, q4, q5⟩ := H _ cs G h4 hng.2
    have hyl : ys.length = xs.length := by rw [← q2, len_ers]
    refine ⟨.lst .lost, ys, S', ?_, q2, (fun h => Sl.noConfusion h), rfl, by omega, q3, q4, fun j hj => ?_⟩
    · unfold frzA
      simp only [h2]
      rw [if_pos (by omega), List.drop_zero, List.take_of_length_le (by omega), q1]
      simp only [Option.bind_some]
      rw [if_pos (by rfl), ← hyl]
      show some (AV.lst (chunk true 9 ys.length (csL ys)) Tip.lost, S') = _
      rw [chunk_cs]; rfl
    · have hja : j ≠ a := fun e => hj (by simp [e])
      rw [q5 j (fun h => hj (by simp [h]))]
      simp [St.set, upd, hja]
mutual
theorem hn_frz : ∀ (x : Pl) (k : Nat) (S : St) (cs : List AV) (F : List Nat), HN S x cs F → F.Nodup → pdep x ≤ k → ∃ y S', mapS (frzA (k + 1)) cs S = some (y.cs, S') ∧ er y = x ∧ Lo y ∧ S'.next = S.next ∧ ∀ j, j ∉ F → S'.mem j = S.mem j
  | .mk kind n neg dg ex tx bs keys kids, k, S, cs, F, h, hnd, hk => by
    simp only [HN] at h
    obtain ⟨vb, vk, vd, Fb, Fk, Fd, rfl, h2, h3, rfl, h4, h5⟩ := h
    have hd0 := List.nodup_append.1 hnd
    have hd := List.nodup_append.1 hd0.2.1
    have hdis : ∀ j ∈ Fd, j ∉ Fk := fun j hj q => hd.2.2 j q j hj rfl
    have hdk : ∀ j ∈ Fk, j ∉ Fb := fun j hj q => hd0.2.2 j q j (by simp [hj]) rfl
    have hdd : ∀ j ∈ Fd, j ∉ Fb := fun j hj q => hd0.2.2 j q j (by simp [hj]) rfl
    simp only [pdep] at hk
    obtain ⟨k, rfl⟩ : ∃ m, k = m + 1 := ⟨k - 1, by omega⟩
    obtain ⟨f0, S0, c1, c3, c4, c7, c8⟩ := hb_frz (k := k) h2
    have h4' : HL (fun cs G => HC S0 keys cs G) keys.length S0 vk Fk := h4.mono (by omega) (fun j hj => c8 j (hdk j hj)) (fun cs G hG h => HC.frame (by omega) keys h fun j hj => c8 j (hdk j (hG j hj)))
    obtain ⟨f1, ys, S1, a1, a2, a3, a4, a5, a6, a7, a8⟩ := hl_frz (k := k + 1) h4' rfl hd.1 (fun S cs F h h' => hc_frz keys k S cs F h h' (by omega))
    have h5' : HL (fun cs G => HC S1 kids cs G) kids.length S1 vd Fd := h5.mono (by omega) (fun j hj => by rw [a8 j (hdis j hj), c8 j (hdd j hj)]) (fun cs G hG h => HC.frame (by omega) kids h fun j hj => by rw [a8 j (hdis j (hG j hj)), c8 j (hdd j (hG j hj))])
    obtain ⟨f2, zs, S2, b1, b2, b3, b4, b5, b6, b7, b8⟩ := hl_frz (k := k + 1) h5' rfl hd.2.1 (fun S cs F h h' => hc_frz kids k S cs F h h' (by omega))
    refine ⟨.mk kind n neg dg ex tx f0 bs f1 ys f2 zs, S2, ?_, by simp only [er]; rw [a2, b2], ⟨⟨c3, a3, b3, h3, a5, b5, oks_iff.2 fun y hy => (a6 y hy).1, oks_iff.2 fun y hy => (b6 y hy).1⟩, ?_⟩, by omega, fun j hj => ?_⟩
    · have hi : ∀ k c n S, frzA (k + 1) (.int c n) S = some (.int c n, S) := fun _ _ _ _ => rfl
      have hbo : ∀ k b S, frzA (k + 1) (.bool b) S = some (.bool b, S) := fun _ _ _ => rfl
      have hst : ∀ k b S, frzA (k + 1) (.str b) S = some (.str b, S) := fun _ _ _ => rfl
      simp only [mapS, c1, hi, hbo, hst, Option.bind_some, a1, b1, Option.map_some]
      rfl
    · have s1 : ∀ (f : Sl) (l : List AV), f.lo = f → AV.shedLeaf (slV f l) = slV f l := fun f l hf => by
        cases f with
        | nil => rfl
        | lst t => cases hf; rfl
      simp only [Nd.cs, List.map_cons, List.map_nil, s1 _ _ a4, s1 _ _ b4, s1 _ _ c4]
      rfl
    · rw [List.mem_append, not_or, List.mem_append, not_or] at hj
      rw [b8 j hj.2.2, a8 j hj.2.1, c8 j hj.1]
theorem hc_frz : ∀ (xs : List Pl) (k : Nat) (S : St) (cs : List AV) (F : List Nat), HC S xs cs F → F.Nodup → pdeps xs ≤ k → ∃ ys S', mapS (frzA (k + 1)) cs S = some (csL ys, S') ∧ ers ys = xs ∧ (∀ y ∈ ys, Lo y) ∧ S'.next = S.next ∧ ∀ j, j ∉ F → S'.mem j = S.mem j
  | [], k, S, cs, F, h, hnd, hk => by
    simp only [HC] at h
    obtain ⟨rfl, rfl⟩ := h
    exact ⟨[], S, rfl, rfl, fun _ h => (List.not_mem_nil h).elim, rfl, fun _ _ => rfl⟩
  | x :: xs, k, S, cs, F, h, hnd, hk => by
    simp only [HC] at h
    obtain ⟨c1, c2, F1, F2, rfl, rfl, h1, h2⟩ := h
    have hd := List.nodup_append.1 hnd
    have hdis : ∀ j ∈ F2, j ∉ F1 := fun j hj q => hd.2.2 j q j hj rfl
    simp only [pdeps] at hk
    obtain ⟨y, S1, a1, a2, a3, a4, a5⟩ := hn_frz x k S c1 F1 h1 hd.1 (by omega)
    obtain ⟨ys, S2, b1, b2, b3, b4, b5⟩ := hc_frz xs k S1 c2 F2 (HC.frame (by omega) xs h2 fun j hj => a5 j (hdis j hj)) hd.2.1 (by omega)
    refine ⟨y :: ys, S2, ?_, by simp only [ers]; rw [a2, b2], fun z hz => ?_, by omega, fun j hj => ?_⟩
    · rw [mapS_app, a1]
      simp only [Option.bind_some, b1, Option.map_some]
      simp [csL]
    · rcases List.mem_cons.1 hz with rfl | hz
      · exact a3
      · exact b3 z hz
    · rw [List.mem_append, not_or] at hj
      rw [b5 j hj.2, a5 j hj.1]
end
theorem frz_err (k : Nat) (e : Int) (S : St) (h : 3 ≤ k) : frzA k (.tuple [.agg zN.cs, .int .i64 e]) S = some (.tuple [.agg zN.cs, .int .i64 e], S) := by
  obtain ⟨m, rfl⟩ : ∃ m, k = m + 3 := ⟨k - 3, by omega⟩
  rfl
theorem frz_tup (k : Nat) (cs : List AV) (e : Int) (S : St) : frzA (k + 3) (.tuple [.agg cs, .int .i64 e]) S = (mapS (frzA (k + 1)) cs S).map fun r => (.tuple [.agg r.1, .int .i64 e], r.2) := by
  have h1 : frzA (k + 3) (.tuple [.agg cs, .int .i64 e]) S = (mapS (frzA (k + 2)) [.agg cs, .int .i64 e] S).map fun r => (.tuple r.1, r.2) := rfl
  have h2 : ∀ S, frzA (k + 2) (.agg cs) S = (mapS (frzA (k + 1)) cs S).map fun r => (.agg r.1, r.2) := fun _ => rfl
  have h3 : ∀ S, frzA (k + 2) (.int .i64 e) S = some (.int .i64 e, S) := fun _ => rfl
  rw [h1]
  simp only [mapS, h2, h3]
  cases mapS (frzA (k + 1)) cs S <;> rfl
end Go.Proofs.YtmkmakokgfigoaaDoor
namespace Go.Proofs.YtmkmakokgfigoaaDoor
open Go.Proofs.YtmkmakokgfigoaaDoor.VM Go.RowKit
set_option maxRecDepth 100000
set_option linter.unusedVariables false
set_option linter.unusedSimpArgs false
set_option maxHeartbeats 1000000
/-! own: a tree of its own, in written arrays. -/
theorem set_ne {S : St} {a j : Nat} {x : Option Blk} (h : j ≠ a) : (S.set a x).mem j = S.mem j := by simp [St.set, upd, h]
theorem one_agg {S : St} {q : Nat} {cs : List AV} (hq : S.cells q = some cs) (hl : cs.length = 9) : elemsA S true 9 (.hnd q 0 1 9) = some [.agg cs] := by
  simp only [elemsA, hq, Option.bind_some]
  rw [if_pos ⟨trivial, by omega, rfl⟩]
  simp only [chunk, List.drop_zero, if_true]
  rw [List.take_of_length_le (by omega)]
theorem append_nil_node {S : St} {q : Nat} {cs : List AV} (hq : S.cells q = some cs) (hl : cs.length = 9) (hf : cs.all AV.leafOk = true) (hs : cs.map AV.shedLeaf = cs) :
    builtinA Tryd.prog TC 46 .append #[24, 24] [.nils, .hnd q 0 1 9] S = some (.ret (.hnd S.next 0 1 9), S.new (.cells cs)) := by
  have hE := el24
  have helem : elemA Tryd.prog 24 = some 26 := by simp [elemA, hE.und]
  have hsh : [AV.agg cs].map AV.shed = [.agg cs] := by simp [AV.shed, hs]
  have hw : wellA 9 [AV.agg cs] = true := by simp only [wellA, List.all_cons, List.all_nil, AV.cells, hl, hf]; rfl
  have hh : TC.hnd 46 = true := by rfl
  simp only [builtinA, appendA, helem, hE.size, hE.agg, hE.bytes, hE.zero, hE.und, Option.bind_some, appendB, one_agg hq hl, hsh]
  rw [if_pos ⟨by decide, hE.zlen, hw⟩]
  simp only [List.length_singleton]
  rw [if_neg (by decide), if_pos (by rfl)]
  simp only [freshA, hh, if_true, Option.bind_some, retA, List.length_singleton]
  simp [flat, AV.cells]
theorem append_hnd_node {S : St} {a i q : Nat} {cs0 cs : List AV} (ha : S.mem a = some (.cells cs0)) (hl0 : cs0.length = i * 9) (hf0 : cs0.all AV.leafOk = true) (hi : i ≤ 2 ^ 38) (hq : S.cells q = some cs) (hl : cs.length = 9) (hf : cs.all AV.leafOk = true) (hs : cs.map AV.shedLeaf = cs) :
    builtinA Tryd.prog TC 46 .append #[24, 24] [.hnd a 0 i 9, .hnd q 0 1 9] S = some (.ret (.hnd S.next 0 (i + 1) 9), (S.set a none).new (.cells (cs0 ++ cs))) := by
  have hE := el24
  have helem : elemA Tryd.prog 24 = some 26 := by simp [elemA, hE.und]
  have hsh : [AV.agg cs].map AV.shed = [.agg cs] := by simp [AV.shed, hs]
  have hw : wellA 9 [AV.agg cs] = true := by simp only [wellA, List.all_cons, List.all_nil, AV.cells, hl, hf]; rfl
  have hc : S.cells a = some cs0 := by unfold St.cells; rw [ha]
  simp only [builtinA, appendA, helem, hE.size, hE.agg, hE.bytes, hE.zero, hE.und, Option.bind_some, appendB, one_agg hq hl, hsh]
  rw [if_pos ⟨by decide, hE.zlen, hw⟩]
  simp only [List.length_singleton]
  rw [if_neg (by decide), hc]
  simp only [Option.bind_some]
  rw [if_pos ⟨trivial, by simp [sizeOk]; omega, by omega, hf0⟩]
  simp only [Option.bind_some, retA, List.drop_zero]
  rw [List.take_of_length_le (by omega)]
  simp [flat, AV.cells]
/-- Nothing that was there turns, and so many blocks are new. -/
structure New (S S1 : St) (k : Nat) : Prop where
  keep : Keep S S1
  more : S.next + k ≤ S1.next
/-- What own answers. -/
def OwnR (x : Pl) (k : Nat) (S : St) (r : AV) (S1 : St) : Prop := ∃ cs F, r = .agg cs ∧ HN S1 x cs F ∧ F.Nodup ∧ (∀ j ∈ F, S.next ≤ j) ∧ Keep S S1 ∧ S.next + k ≤ S1.next
def OwnsR (xs : List Pl) (k : Nat) (S : St) (r : AV) (S1 : St) : Prop := ∃ F, HL (fun cs G => HC S1 xs cs G) xs.length S1 r F ∧ F.Nodup ∧ (∀ j ∈ F, S.next ≤ j) ∧ Keep S S1 ∧ S.next + k ≤ S1.next
theorem HL.le {P : List AV → List Nat → Prop} {n : Nat} {S : St} {v : AV} {F : List Nat} (h : HL P n S v F) : v = .nils ∧ n = 0 ∧ F = [] ∨ ∃ a G, F = a :: G ∧ v = .hnd a 0 n 9 := by
  rcases h with h | ⟨a, cs, G, rfl, _, _, rfl, _⟩
  · exact .inl h
  · exact .inr ⟨a, G, rfl, rfl⟩

theorem t46_of (N : Nat) (hN : N ≤ 2 ^ 30) (H : ∀ x : Nd, x.Ok → cnt x ≤ N → ∀ S, CallQ Tryd.prog TC 34 [x.v] S fun r S1 => OwnR (er x) (2 * cnt x) S r S1) (xs : List Nd) (f : Sl) (hf : f = .nil → xs = []) (hx : Nd.Oks xs) (hcn : cnts xs ≤ N) (S : St) :
    CallQ Tryd.prog TC 46 [slV f (Nd.vs xs)] S fun r S1 => OwnsR (ers xs) (2 * cnts xs) S r S1 := by
  refine CallQ.of rfl (by kernel_rfl : Tryd.prog.funcs[46]? = some Tryd.f46) rfl (by decide) ?_
  rcases f with _ | tf
  · obtain rfl := hf rfl
    conv => whnf
    refine CodeQ.loop (fun (i : Nat) => pat 19 [(3, .nils), (7, .int .i64 0), (8, .int .i64 0)]) (fun m i S1 => S1 = S) ?_ 0 0 _ _ rfl ⟨rfl, rfl, rfl, trivial⟩
    rintro m i S1 d rfl
    conv => whnf
    intro c hc
    obtain rfl : c = false := by rw [hc]; rfl
    conv => whnf
    exact ⟨[], .inl ⟨rfl, rfl, rfl⟩, List.nodup_nil, fun _ h => (List.not_mem_nil h).elim, .refl _, by simp [cnts]⟩
  · have hlen : xs.length ≤ 2 ^ 30 := by have := len_cnts xs; omega
    conv => whnf
    refine CodeQ.loop (fun (q : Nat × AV) => pat 19 [(3, q.2), (6, .lst (Nd.vs xs) tf), (7, .int .i64 xs.length), (8, .int .i64 q.1)])
      (fun m q S1 => q.1 + m = xs.length ∧ Keep S S1 ∧ S.next + 2 * cnts (xs.take q.1) ≤ S1.next ∧ ∃ F, HL (fun cs G => HC S1 (ers (xs.take q.1)) cs G) q.1 S1 q.2 F ∧ F.Nodup ∧ ∀ j ∈ F, S.next ≤ j) ?_ xs.length (0, .nils) _ _
      ⟨by simp, .refl _, by simp [cnts], [], .inl ⟨rfl, rfl, rfl⟩, List.nodup_nil, fun _ h => (List.not_mem_nil h).elim⟩ ⟨rfl, rfl, by simp [vs_len], rfl, trivial⟩
    rintro m ⟨i, o⟩ S1 d ⟨hi, k1, hmo, F, ho, hnd, hF⟩
    dsimp only at *
    have hn1 := k1.next
    conv => whnf
    intro c hc
    cases c
    · have hle : xs.length ≤ i := by simpa using hc
      rw [List.take_of_length_le hle] at ho hmo
      obtain rfl : i = xs.length := by omega
      have hfin : OwnsR (ers xs) (2 * cnts xs) S o S1 := ⟨F, by rw [len_ers]; exact ho, hnd, hF, k1, by omega⟩
      rcases ho.le with ⟨rfl, _, _⟩ | ⟨a, G, _, rfl⟩
      all_goals
        conv => whnf
        exact hfin
    · have hlt : i < xs.length := by simpa using hc
      have g1 := vs_at hlt
      have hcall := H xs[i] (oks_iff.1 hx _ (List.getElem_mem hlt)) (Nat.le_trans (cnt_mem (List.getElem_mem hlt)) hcn)
      have e1 := ers_take hlt
      have e2 := cnts_take xs i hlt
      generalize xs[i] = x at *
      obtain ⟨X, hX⟩ : ∃ X, X = er x := ⟨_, rfl⟩
      rw [← hX] at hcall e1
      clear hX
      generalize cnt x = cx at *
      obtain ⟨kind', n', neg', dg', ex', tx', fb', bs', fk', keys', fd', kids'⟩ := x
      conv => whnf
      refine ⟨by omega, _, g1, rfl, ?_⟩
      conv => whnf
      refine ⟨_, _, cells_new _ _, store_agg rfl rfl (nd_leaf ..), ?_⟩
      conv => whnf
      generalize hS2 : (S1.new _).set S1.next _ = S2
      have kk2 : Keep S1 S2 := by rw [← hS2]; exact ((Keep.refl S1).new _).set _ _ (Nat.le_refl _)
      have n2 : S2.next = S1.next + 1 := by rw [← hS2]; rfl
      have x2 : S2.cells S1.next = some (Nd.cs (.mk kind' n' neg' dg' ex' tx' fb' bs' fk' keys' fd' kids')) := by rw [← hS2]; exact cells_set _ _ _
      clear hS2
      refine ⟨_, x2, ?_⟩
      conv => whnf
      refine CallQ.mono (hcall S2) ?_
      rintro r S3 ⟨cs, Fy, rfl, hy, hndy, hFy, k3, hm3⟩
      obtain ⟨hl, hlf, hsh⟩ := hn_cells hy
      have hlt3 := HN.lt _ hy
      have hF1 := ho.lt
      have ho3 : HL (fun cs G => HC S3 (ers (xs.take i)) cs G) i S3 o F := ho.mono (by omega) (fun j hj => by rw [k3.mem j (by have := hF1 j hj; omega), kk2.mem j (hF1 j hj)]) (fun cs G hG h => HC.frame (by omega) _ h fun j hj => by rw [k3.mem j (by have := hF1 j (hG j hj); omega), kk2.mem j (hF1 j (hG j hj))])
      obtain ⟨c0, c1, c2, c3, c4, c5, c6, c7, c8, rfl⟩ : ∃ c0 c1 c2 c3 c4 c5 c6 c7 c8, cs = [c0, c1, c2, c3, c4, c5, c6, c7, c8] := by
        match cs, hl with
        | [x0, x1, x2, x3, x4, x5, x6, x7, x8], _ => exact ⟨x0, x1, x2, x3, x4, x5, x6, x7, x8, rfl⟩
      conv => whnf
      generalize hS4 : S3.new _ = S4
      have q4 : S4.cells S3.next = some [c0, c1, c2, c3, c4, c5, c6, c7, c8] := by rw [← hS4]; exact cells_new _ _
      have n4 : S4.next = S3.next + 1 := by rw [← hS4]; rfl
      have k4 : Keep S3 S4 := by rw [← hS4]; exact (Keep.refl S3).new _
      clear hS4
      have kk : Keep S S4 := ((k1.trans kk2).trans k3).trans k4
      have one : ∀ S5 : St, S3.next ≤ S5.next → (∀ j ∈ Fy, S5.mem j = S3.mem j) → HC S5 [X] [c0, c1, c2, c3, c4, c5, c6, c7, c8] Fy := fun S5 h1 h2 => by
        simp only [HC]
        exact ⟨_, [], Fy, [], by simp, by simp, HN.frame h1 _ hy h2, rfl, rfl⟩
      rcases ho3 with ⟨rfl, h0, rfl⟩ | ⟨a, cs0, G, rfl, h1, h1', rfl, h2, h3⟩
      · subst h0
        refine ⟨_, _, append_nil_node q4 hl hlf hsh, ?_⟩
        have fr : ∀ j ∈ Fy, (S4.new (.cells [c0, c1, c2, c3, c4, c5, c6, c7, c8])).mem j = S3.mem j := fun j hj => by
          have := hlt3 j hj
          rw [((Keep.refl S4).new _).mem j (by omega), k4.mem j this]
        conv => whnf
        refine ⟨m - 1, (1, _), by omega, ⟨by dsimp only; omega, kk.new _, ?_, S4.next :: Fy, .inr ⟨S4.next, _, Fy, rfl, by show S4.next < S4.next + 1; omega, by show 1 ≤ 2 ^ 47; decide, rfl, mem_new _ _, ?_⟩, ?_, ?_⟩, ⟨rfl, rfl, rfl, ?_, trivial⟩⟩
        · rw [e2]; simp only [List.take_zero, cnts] at hmo ⊢
          show _ ≤ S4.next + 1
          omega
        · rw [e1]
          simp only [List.take_zero, ers, List.nil_append]
          exact one _ (by show _ ≤ S4.next + 1; omega) fr
        · refine List.nodup_cons.2 ⟨fun h => by have := hlt3 _ h; omega, hndy⟩
        · intro j hj
          rcases List.mem_cons.1 hj with rfl | hj
          · omega
          · have := hFy j hj; omega
        · rw [wrap_i64 (by omega) (by omega)]; rfl
      · have hng := List.nodup_cons.1 hnd
        have ha3 : S4.mem a = some (.cells cs0) := by rw [k4.mem a h1]; exact h2
        have haS : S.next ≤ a := hF a (by simp)
        have ha1 : a < S1.next := hF1 a (by simp)
        have hl0 := hc_len h3
        rw [len_ers, List.length_take] at hl0
        have hl0 : cs0.length = i * 9 := by rw [hl0]; congr 1; omega
        refine ⟨_, _, append_hnd_node ha3 hl0 (hc_leaf h3) (by omega) q4 hl hlf hsh, ?_⟩
        have fr : ∀ j, j < S3.next → j ≠ a → ((S4.set a none).new (.cells (cs0 ++ [c0, c1, c2, c3, c4, c5, c6, c7, c8]))).mem j = S3.mem j := fun j hj hja => by
          have e : (S4.set a none).next = S4.next := rfl
          simp only [St.new, St.set, upd]
          rw [if_neg (by omega), if_neg hja, k4.mem j hj]
        conv => whnf
        refine ⟨m - 1, (i + 1, _), by omega, ⟨by dsimp only; omega, (kk.set _ _ haS).new _, ?_, S4.next :: (G ++ Fy), .inr ⟨S4.next, _, G ++ Fy, rfl, by show S4.next < S4.next + 1; omega, by omega, rfl, mem_new _ _, ?_⟩, ?_, ?_⟩, ⟨rfl, rfl, rfl, ?_, trivial⟩⟩
        · rw [e2]
          show _ ≤ S4.next + 1
          omega
        · rw [e1]
          refine hc_app (one _ (by show _ ≤ S4.next + 1; omega) fun j hj => fr j (hlt3 j hj) (by have := hFy j hj; omega)) (HC.frame (by show _ ≤ S4.next + 1; omega) _ h3 fun j hj => fr j ?_ ?_)
          · have := hF1 j (by simp [hj]); omega
          · rintro rfl; exact hng.1 hj
        · refine List.nodup_cons.2 ⟨fun h => ?_, List.nodup_append.2 ⟨hng.2, hndy, fun x hx y hy' e => ?_⟩⟩
          · rcases List.mem_append.1 h with h | h
            · have := hF1 S4.next (by simp [h]); omega
            · have := hlt3 _ h; omega
          · subst e
            have := hF1 x (by simp [hx])
            have := hFy x hy'
            omega
        · intro j hj
          rcases List.mem_cons.1 hj with rfl | hj
          · omega
          · rcases List.mem_append.1 hj with hj | hj
            · exact hF j (by simp [hj])
            · have := hFy j hj; omega
        · rw [wrap_i64 (by omega) (by omega)]; rfl
theorem hl_split {P : List AV → List Nat → Prop} {n : Nat} {S : St} {v : AV} {F : List Nat} (h : HL P n S v F) : v = .nils ∨ ∃ a n, v = .hnd a 0 n 9 := by
  rcases h with ⟨rfl, _⟩ | ⟨a, cs, G, _, _, _, rfl, _⟩
  · exact .inl rfl
  · exact .inr ⟨a, n, rfl⟩
theorem append_b47 {P : Program} {C : Cfg} {f : FuncId} {t e : TypeId} {z : AV} (hE : Elem P t e 1 1 false z) {S : St} {n : Nat} {y : AV} {ds bs : List UInt8} {rest : List AV} (hn : S.cells n = some (ds.map u8 ++ rest)) (hr : rest.all AV.leafOk = true) (hy : elemsA S false 1 y = some (bs.map u8)) (hne : bs ≠ [])
    (hs : ds.length + bs.length ≤ 140737488355328) :
    builtinA P C f .append #[t, t] [.hnd n 0 ds.length 1, y] S = some (.ret (.hnd S.next 0 (ds.length + bs.length) 1), (S.set n none).new (.cells ((ds ++ bs).map u8))) := by
  have hun := hE.und
  have helem : elemA P t = some e := by simp [elemA, hun]
  have hl : bs.length ≠ 0 := fun h => hne (List.length_eq_zero_iff.1 h)
  simp only [builtinA, appendA, helem, hE.size, hE.agg, hE.bytes, hE.zero, hun, Option.bind_some, appendB, hy, shed_u8]
  rw [if_pos ⟨by omega, hE.zlen, wellA_u8 bs⟩]
  simp only [List.length_map, if_neg hl, hn, Option.bind_some]
  rw [if_pos ⟨trivial, by simp [sizeOk]; omega, by simp, by rw [List.all_append, leaf_u8, hr]; rfl⟩]
  simp only [Option.bind_some, retA, List.drop_zero, Nat.mul_one, flat_u8, List.map_append]
  rw [List.take_append_of_le_length (by simp), List.take_of_length_le (by simp)]
theorem hb_split {S : St} {bs : List UInt8} {v : AV} {F : List Nat} (h : HB S bs v F) : v = .nils ∨ ∃ b n, v = .hnd b 0 n 1 := by
  rcases h with ⟨rfl, _⟩ | ⟨b, _, _, rfl, _⟩
  · exact .inl rfl
  · exact .inr ⟨b, _, rfl⟩
theorem t45h (bs : List UInt8) (fb : Sl) (hf : fb = .nil → bs = []) (hl : bs.length ≤ 2 ^ 47) (S : St) : CallQ Tryd.prog TC 45 [slV fb (bs.map u8)] S fun r S1 => ∃ F, HB S1 bs r F ∧ (∀ j ∈ F, S.next ≤ j) ∧ Keep S S1 := by
  refine CallQ.of rfl (by kernel_rfl : Tryd.prog.funcs[45]? = some Tryd.f45) rfl (by decide) ?_
  rcases fb with _ | tb
  · conv => whnf
    refine brB (fun _ => ?_) (fun h => by cases h)
    conv => whnf
    exact ⟨[], .inl ⟨rfl, hf rfl, rfl⟩, fun _ h => (List.not_mem_nil h).elim, .refl _⟩
  · conv => whnf
    refine brB (fun h => by cases h) (fun _ => ?_)
    conv => whnf
    have hn : (S.new (.cells [])).cells S.next = some (([] : List UInt8).map u8 ++ []) := cells_new _ _
    by_cases hb : bs = []
    · subst hb
      refine ⟨_, _, append_none (C := TC) (f := 45) el23 (show elemsA _ false 1 (.lst [] tb) = some [] from rfl), ?_⟩
      conv => whnf
      exact ⟨[S.next], .inr ⟨S.next, rfl, by show S.next < S.next + 1; omega, rfl, mem_new _ _⟩, fun j hj => by rw [List.mem_singleton.1 hj]; exact Nat.le_refl _, (Keep.refl _).new _⟩
    · refine ⟨_, _, append_b47 (C := TC) (f := 45) (ds := []) el23 hn rfl (show elemsA _ false 1 (.lst (bs.map u8) tb) = some (bs.map u8) from rfl) hb (by simp; omega), ?_⟩
      conv => whnf
      refine ⟨[S.next + 1], .inr ⟨S.next + 1, rfl, by show S.next + 1 < S.next + 1 + 1; omega, ?_, ?_⟩, fun j hj => by rw [List.mem_singleton.1 hj]; omega, (((Keep.refl S).new _).set S.next _ (Nat.le_refl _)).new _⟩
      · show AV.hnd _ 0 (0 + bs.length) 1 = _
        rw [Nat.zero_add]; rfl
      · exact mem_new ((S.new (.cells [])).set S.next none) (.cells (([] ++ bs).map u8))
theorem t34_step (N : Nat) (hN : N ≤ 2 ^ 30) (H : ∀ x : Nd, x.Ok → cnt x ≤ N → ∀ S, CallQ Tryd.prog TC 34 [x.v] S fun r S1 => OwnR (er x) (2 * cnt x) S r S1) (x : Nd) (hx : x.Ok) (hc : cnt x ≤ N + 1) (S : St) :
    CallQ Tryd.prog TC 34 [x.v] S fun r S1 => OwnR (er x) (2 * cnt x) S r S1 := by
  obtain ⟨kind, n, neg, dg, ex, tx, fb, bs, fk, keys, fd, kids⟩ := x
  obtain ⟨x1, x2, x3, x4, x5, x6, x7, x8⟩ := hx
  simp only [cnt] at hc
  have hk := t46_of N hN H keys fk x2 x7 (by omega)
  have hd := t46_of N hN H kids fd x3 x8 (by omega)
  have hb := t45h bs fb x1 x4
  refine CallQ.of rfl (by kernel_rfl : Tryd.prog.funcs[34]? = some Tryd.f34) rfl (by decide) ?_
  conv => whnf
  have hdn : ∀ b, (S.new b).next = S.next + 1 := fun _ => rfl
  rw [hdn]
  generalize hS1 : (S.new _).new _ = S1
  have k1 : Keep S S1 := by rw [← hS1]; exact ((Keep.refl S).new _).new _
  have a1 : S1.cells S.next = some [.int .i64 kind, .int .u64 n, .bool neg, .str dg, .int .i64 ex, .str tx, slV fb (bs.map u8), slV fk (Nd.vs keys), slV fd (Nd.vs kids)] := by rw [← hS1]; exact cells_new_ne (cells_new _ _) (by show S.next ≠ S.next + 1; omega)
  have a2 : S1.cells (S.next + 1) = some zN.cs := by rw [← hS1]; exact cells_new _ _
  have n1 : S1.next = S.next + 2 := by rw [← hS1]; rfl
  refine ⟨_, a1, ?_⟩
  conv => whnf
  refine CallQ.mono (hb S1) ?_
  rintro vb S2 ⟨Fb, hlb, geB, k2⟩
  have b1 := (cells_keep k2 (j := S.next) (by omega)).trans a1
  have b2 := (cells_keep k2 (j := S.next + 1) (by omega)).trans a2
  have n2 := k2.next
  have ltb := hlb.lt
  have hsb := hb_split hlb
  obtain ⟨Vb, hVb⟩ : ∃ Vb, Vb = vb := ⟨_, rfl⟩
  rw [← hVb] at hlb
  rcases hsb with rfl | ⟨bb, nb, rfl⟩
  all_goals
    conv => whnf
    refine ⟨_, _, b1, if_pos ⟨rfl, rfl, Nat.le_of_ble_eq_true rfl⟩, ?_⟩
    conv => whnf
    generalize hS3 : S2.set S.next _ = S3
    have k3 : Keep S S3 := by rw [← hS3]; exact (k1.trans k2).set _ _ (Nat.le_refl _)
    have n3 : S.next + 2 ≤ S3.next := by rw [← hS3]; show _ ≤ S2.next; omega
    have n3' : S3.next = S2.next := by rw [← hS3]; rfl
    have m3 : ∀ j, j ≠ S.next → S3.mem j = S2.mem j := fun j hj => by rw [← hS3]; exact set_ne hj
    have c1 : S3.cells S.next = some [.int .i64 kind, .int .u64 n, .bool neg, .str dg, .int .i64 ex, .str tx, Vb, slV fk (Nd.vs keys), slV fd (Nd.vs kids)] := by rw [← hS3, hVb]; exact cells_set _ _ _
    rw [hVb] at c1
    have c2 : S3.cells (S.next + 1) = some zN.cs := by rw [← hS3]; exact cells_set_ne b2 (by omega)
    clear hS3 hS1 b1 b2 a1 a2
    refine ⟨[0, 1, 3, 4, 2, 5, 6, 7, 8, 9], [(2, [4])], by kernel_rfl, by kernel_rfl, by kernel_rfl, ?_⟩
    conv => whnf
    refine ⟨_, c1, ?_⟩
    conv => whnf
    refine ⟨_, c1, ?_⟩
    conv => whnf
    refine CallQ.mono (hk S3) ?_
    rintro vk S4 ⟨Fk, hlk, ndk, geK, k4, m4⟩
    have n4 := k4.next
    have d1 := (cells_keep k4 (j := S.next) (by omega)).trans c1
    have d2 := (cells_keep k4 (j := S.next + 1) (by omega)).trans c2
    have ltk := hlk.lt
    have hsk := hl_split hlk
    obtain ⟨Vk, hVk⟩ : ∃ Vk, Vk = vk := ⟨_, rfl⟩
    rw [← hVk] at hlk
    rcases hsk with rfl | ⟨ak, nk, rfl⟩
    all_goals
      conv => whnf
      refine ⟨stab_load rfl rfl rfl rfl rfl (by show (St.cells _ S.next).bind _ = _; rw [d1]; rfl), ?_⟩
      conv => whnf
      refine CallQ.mono (hd S4) ?_
      rintro vd S5 ⟨Fd, hld, ndd, geD, k5, m5⟩
      have n5 := k5.next
      have e1 := (cells_keep k5 (j := S.next) (by omega)).trans d1
      have e2 := (cells_keep k5 (j := S.next + 1) (by omega)).trans d2
      have ltd := hld.lt
      have hsd := hl_split hld
      obtain ⟨Vd, hVd⟩ : ∃ Vd, Vd = vd := ⟨_, rfl⟩
      rw [← hVd] at hld
      have hfin : ∀ S6 : St, S5.next ≤ S6.next → (∀ j, S.next + 2 ≤ j → S6.mem j = S5.mem j) → Keep S S6 → OwnR (er (.mk kind n neg dg ex tx fb bs fk keys fd kids)) (2 * cnt (.mk kind n neg dg ex tx fb bs fk keys fd kids)) S (.agg [.int .i64 kind, .int .u64 n, .bool neg, .str dg, .int .i64 ex, .str tx, Vb, Vk, Vd]) S6 := by
        intro S6 h6 hm6 k6
        refine ⟨_, Fb ++ (Fk ++ Fd), rfl, ?_, ?_, ?_, k6, by simp only [cnt]; omega⟩
        · simp only [er, HN]
          refine ⟨Vb, Vk, Vd, Fb, Fk, Fd, rfl, ?_, x4, rfl, ?_, ?_⟩
          · refine hlb.frame (by omega) (fun j hj => ?_)
            have := geB j hj
            have := ltb j hj
            rw [hm6 j (by omega), k5.mem j (by omega), k4.mem j (by omega), m3 j (by omega)]
          · refine hlk.mono (by omega) (fun j hj => ?_) (fun cs G hG h => HC.frame (by omega) _ h fun j hj => ?_)
            · rw [hm6 j (by have := geK j hj; omega), k5.mem j (ltk j hj)]
            · rw [hm6 j (by have := geK j (hG j hj); omega), k5.mem j (ltk j (hG j hj))]
          · refine hld.mono (by omega) (fun j hj => ?_) (fun cs G hG h => HC.frame (by omega) _ h fun j hj => ?_)
            · rw [hm6 j (by have := geD j hj; omega)]
            · rw [hm6 j (by have := geD j (hG j hj); omega)]
        · refine List.nodup_append.2 ⟨hlb.nodup, List.nodup_append.2 ⟨ndk, ndd, fun a ha b hb e => by subst e; have := ltk a ha; have := geD a hb; omega⟩, fun a ha b hb e => ?_⟩
          subst e
          have := ltb a ha
          rcases List.mem_append.1 hb with hb | hb
          · have := geK a hb; omega
          · have := geD a hb; omega
        · intro j hj
          rcases List.mem_append.1 hj with hj | hj
          · have := geB j hj; omega
          rcases List.mem_append.1 hj with hj | hj
          · have := geK j hj; omega
          · have := geD j hj; omega
      rcases hsd with rfl | ⟨ad, nd, rfl⟩
      all_goals
        conv => whnf
        refine ⟨_, _, e1, if_pos ⟨rfl, rfl, Nat.le_of_ble_eq_true rfl⟩, ?_⟩
        conv => whnf
        refine ⟨_, _, cells_set _ _ _, if_pos ⟨rfl, rfl, Nat.le_of_ble_eq_true rfl⟩, ?_⟩
        conv => whnf
        refine ⟨_, cells_set _ _ _, ?_⟩
        conv => whnf
        refine ⟨_, _, cells_set_ne (cells_set_ne e2 (by omega)) (by omega), store_agg rfl rfl rfl, ?_⟩
        conv => whnf
        refine ⟨_, (by show (St.cells _ (S.next + 1)).bind _ = _; rw [cells_set]; rfl), ?_⟩
        conv => whnf
        rw [hVk, hVd, hVb] at hfin
        have key : ∀ b1 b2 b3, OwnR (er (.mk kind n neg dg ex tx fb bs fk keys fd kids)) (2 * cnt (.mk kind n neg dg ex tx fb bs fk keys fd kids)) S _ (((S5.set S.next b1).set S.next b2).set (S.next + 1) b3) := fun b1 b2 b3 =>
          hfin (((S5.set S.next b1).set S.next b2).set (S.next + 1) b3) (Nat.le_refl S5.next) (fun j hj => by rw [set_ne (by omega), set_ne (by omega), set_ne (by omega)]) (((((k3.trans k4).trans k5).set S.next b1 (Nat.le_refl _)).set S.next b2 (Nat.le_refl _)).set (S.next + 1) b3 (by omega))
        exact key _ _ _
theorem t34 : ∀ (N : Nat), N ≤ 2 ^ 30 → ∀ x : Nd, x.Ok → cnt x ≤ N → ∀ S, CallQ Tryd.prog TC 34 [x.v] S fun r S1 => OwnR (er x) (2 * cnt x) S r S1
  | 0, _, x, _, h, _ => by have := cnt_pos x; omega
  | N + 1, hN, x, hx, hc, S => t34_step N (by omega) (t34 N (by omega)) x hx hc S
end Go.Proofs.YtmkmakokgfigoaaDoor
