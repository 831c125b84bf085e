import Derived.Test.YtfphpjinimfhfaaVMClosed
import Derived.Test.YtfphpjinimfhfaaVMKit
import Derived.Lib.Builder
import Derived.Lib.UnsafeStr
import Derived.Lib.Bytealg
import Derived.Laws.Externs
/-! strings.Builder for the machine of values: copyCheck and String told as contracts. -/
namespace Go.Proofs.Ytfphpjinimfhfaa.VM
set_option linter.unusedSectionVars false
set_option linter.unusedVariables false
set_option linter.unusedSimpArgs false
open Go.RowKit

theorem liesAt_bytes_at {P : Program} {e : TypeId} (hc : P.cellsOf e = 1) (count o n : Nat) (hn : o + n ≤ count) : liesAt P P.depth e count o e n = true := by
  have hd : P.depth = (2 * (P.types.size + Made.depth) + 1) + 1 := rfl
  rw [hd]
  simp only [liesAt, Bool.or_eq_true]
  left
  rw [hd]
  simp [rowAt, hc, hn, sameLayout, Nat.mod_one]

theorem run_unsafeString_at {P : Program} {w : World} (pt it ty e : TypeId) (hp : P.underlying pt = some (.pointer e)) (hc : P.cellsOf e = 1) (g o cells : Nat) (hsh : w.shape? g = some (e, cells)) (l : List UInt8) (h0 : l ≠ []) (hn : o + l.length ≤ cells) (h63 : l.length ≤ 9223372036854775807)
    (hcell : ∀ j x, l[j]? = some x → w.cell? ⟨g, o + j, none⟩ = some (.int .u8 x.toNat)) :
    (Builtin.unsafeString_ #[pt, it] ty #[.pointer (some ⟨g, o, none⟩), .int .i64 l.length]).run P w = .ok (.string ⟨l.toArray⟩) (w.freeze ⟨g, o, none⟩ l.length) := by
  have hl : l.length ≠ 0 := by simpa using h0
  have hlb := Lib.run_loadBytes (P := P) w l ⟨g, o, none⟩ .empty (fun j x hx => by
    rw [show (⟨g, o, none⟩ : Addr).add j = ⟨g, o + j, none⟩ by unfold Addr.add; by_cases hj : j = 0 <;> simp [hj]]; exact hcell j x hx)
  have hlies := liesAt_bytes_at (P := P) hc (cells / P.cellsOf e) o l.length (by rw [hc]; simpa using hn)
  have h63' : ¬ (9223372036854775807 : Int) < (l.length : Int) := by omega
  have hdef : Builtin.unsafeString_ #[pt, it] ty #[.pointer (some ⟨g, o, none⟩), .int .i64 l.length] =
      (do
        let n ← asInt (.int .i64 l.length)
        if n < 0 then runtimePanic (.error "unsafe.String: len out of range")
        if n > IntKind.i64.max then unsupported (.unsafePointer "String: a length above the largest int")
        if n = 0 then pure (.string .empty)
        else if ← variablesAt ⟨g, o, none⟩ (← elemOf pt) n.toNat then do
          let s ← loadBytes ⟨g, o, none⟩ .empty n.toNat
          freeze ⟨g, o, none⟩ n.toNat
          pure (.string s)
        else unsupported (.unsafePointer "String: not so many bytes at ptr")) := rfl
  rw [hdef]
  have hmax : IntKind.i64.max = 9223372036854775807 := rfl
  have hneg : ¬ (l.length : Int) < 0 := by omega
  simp [asInt, asIntOf, hmax, h63', hneg, hl, variablesAt, hsh, elemOf, run_underlying hp, hlies, hlb]

variable [Glob]
/-- Bytes that are bytes. -/
def byteList : List AV → Option (List UInt8)
  | [] => some []
  | .int .u8 n :: l => if 0 ≤ n ∧ n < 256 then (byteList l).map (UInt8.ofNat n.toNat :: ·) else none
  | _ => none
theorem byteList_u8 : ∀ bs : List UInt8, byteList (bs.map u8) = some bs
  | [] => rfl
  | b :: bs => by
    have hb := b.toNat_lt
    show (if 0 ≤ ((b.toNat : Nat) : Int) ∧ ((b.toNat : Nat) : Int) < 256 then (byteList (bs.map u8)).map (UInt8.ofNat ((b.toNat : Nat) : Int).toNat :: ·) else none) = _
    rw [if_pos ⟨by omega, by omega⟩, byteList_u8 bs]
    simp
theorem byteList_eq : ∀ {xs : List AV} {bs : List UInt8}, byteList xs = some bs → xs = bs.map u8
  | [], bs, h => by cases h; rfl
  | x :: xs, bs, h => by
    match x, h with
    | .int .u8 k, h =>
      unfold byteList at h
      split at h
      case isFalse => cases h
      rename_i hk
      obtain ⟨bs', h1, h2⟩ := Option.map_eq_some_iff.1 h
      subst h2
      rw [byteList_eq h1]
      simp only [List.map_cons, u8]
      congr 2
      rw [UInt8.toNat_ofNat']
      omega

/-- The first write lays the builder's own address into it. -/
def copyCheckG (T : TypeId) : List AV → St → Option (AV × St)
  | [.ptr n 0], S => match S.mem n with
    | some (.own ty [.nul, b]) => if ty = T then some (.tuple [], S.set n (some (.cells [.ptr n 0, b]))) else none
    | some (.cells [.ptr m 0, b]) => if m = n then some (.tuple [], S) else none
    | _ => none
  | _, _ => none

def bldStringG (U : TypeId) : List AV → St → Option (AV × St)
  | [.ptr n 0], S => match S.cells n with
    | some [_, .nils] => some (.str [], S)
    | some [_, .lst xs (.tag m)] => match S.mem m, byteList xs with
      | some (.tip ty), some bs => if ty = U ∧ bs.length ≤ 140737488355328 then some (.str bs, S) else none
      | _, _ => none
    | _ => none
  | _, _ => none

variable {P : Program} {w0 w : World} {G : Gh} {F : Nat → Option Blk} {S : St}

theorem own_at (h : SR w0 G (ov S.mem F) w) {n : Nat} {ty : TypeId} {cs : List AV} (hm : S.mem n = some (.own ty cs)) {b o : Nat} (hio : G.io n = some (b, o)) :
    o = 0 ∧ w0.heap.size ≤ b ∧ ∃ ccs, w.heap[b]? = some (.cells ccs ty (0, 0)) ∧ cs.length = ccs.size ∧ (∀ i (h : i < cs.length), VR G cs[i] (ccs.getD i Go.undef)) := by
  obtain ⟨b', o', h1, h2, h3⟩ := h.res n _ (ov_some hm)
  rw [hio] at h1; cases h1
  obtain ⟨ccs, k1, k2, k3, k4, _⟩ := h3
  exact ⟨k2, h2, ccs, k1, k3, k4⟩

theorem copyCheck_callS {f T : Nat} (hent : ∀ args w, (callFunc f args).run P w = .ok (.enter f args) w)
    (hfresh : ∀ b w, w.cell? ⟨b, 0, none⟩ = some (.pointer none) → w.shape? b = some (T, 2) → w.frozen? ⟨b, 0, none⟩ = false →
      Calls P f #[.pointer (some ⟨b, 0, none⟩)] w fun e w' => e = .returned (.tuple #[]) ∧ w' = w.setCell ⟨b, 0, none⟩ (.pointer (some ⟨b, 0, none⟩)))
    (hused : ∀ b o w, w.cell? ⟨b, o, none⟩ = some (.pointer (some ⟨b, o, none⟩)) → Calls P f #[.pointer (some ⟨b, o, none⟩)] w fun e w' => e = .returned (.tuple #[]) ∧ w' = w)
    {args : List AV} {v : AV} {S' : St} (hg : copyCheckG T args S = some (v, S')) : CallS P f args S (.ret v) S' ∧ S.next ≤ S'.next := by
  unfold copyCheckG at hg
  split at hg
  case h_2 => cases hg
  rename_i n
  split at hg
  · rename_i ty b hm
    split at hg
    case isFalse => cases hg
    rename_i hty
    subst hty
    cases hg
    refine ⟨?_, Nat.le_refl _⟩
    intro w0 G F w cargs _ hv hs hwf hFO hFN
    obtain ⟨l⟩ := cargs
    cases hv with
    | cons h t =>
    cases t
    cases h with
    | ptr _ _ bb o hio =>
    obtain ⟨rfl, hge, ccs, hb, hlen, hcv⟩ := own_at hs hm hio
    have hc0 : VR G .nul (ccs.getD 0 Go.undef) := hcv 0 (by simp)
    have hcell0 : w.cell? ⟨bb, 0, none⟩ = some (.pointer none) := by
      rw [cell_of hb, getD_some (by rw [← hlen]; simp)]
      generalize ccs.getD 0 Go.undef = u at hc0
      cases hc0; rfl
    have hshape : w.shape? bb = some (ty, 2) := by
      have h2 : ccs.size = 2 := hlen.symm
      simp [World.shape?, hb, h2]
    have hfz : w.frozen? ⟨bb, 0, none⟩ = false := by simp [World.frozen?, hb]
    have hst := store_cells (P := P) (off := 0) hs (show S.cells n = some [.nul, b] by simp [St.cells, hm]) hio [.ptr n 0] [.pointer (some ⟨bb, 0, none⟩)] rfl (fun i hi => by
      obtain rfl : i = 0 := by simpa using hi
      exact VR.ptr n 0 bb 0 hio) rfl (by simp)
    obtain ⟨w', h1, h2⟩ := hst
    have e1 : w' = w.setCell ⟨bb, 0, none⟩ (.pointer (some ⟨bb, 0, none⟩)) := by
      have hsz : 0 < ccs.size := by rw [← hlen]; simp
      have : (storeCells ⟨bb, 0 + 0, none⟩ [.pointer (some ⟨bb, 0, none⟩)]).run P w = .ok () (w.setCell ⟨bb, 0, none⟩ (.pointer (some ⟨bb, 0, none⟩))) := by
        have hc := cell_of hb 0
        rw [getD_some hsz] at hc
        simp [storeCells, Addr.add]
        rw [run_store P w ⟨bb, 0, none⟩ (.pointer (some ⟨bb, 0, none⟩)) _ rfl, hc]
        simp [hfz]
      rw [this] at h1
      cases h1; rfl
    subst e1
    refine .inl ⟨hent _ _, (hfresh bb w hcell0 hshape hfz).mono fun e w' ⟨he, hw⟩ => ?_⟩
    subst hw
    exact ⟨G, .refl _ _ _, h2, grow_set hwf hm, _, he, .tuple [] _ rfl (fun i hi => by simp at hi)⟩
  · rename_i m b hm
    split at hg
    case isFalse => cases hg
    rename_i hmn
    subst hmn
    cases hg
    refine ⟨?_, Nat.le_refl _⟩
    intro w0 G F w cargs _ hv hs hwf hFO hFN
    obtain ⟨l⟩ := cargs
    cases hv with
    | cons h t =>
    cases t
    cases h with
    | ptr _ _ bb o hio =>
    obtain ⟨hge, ccs, ty, hb, hlen, hcv, _⟩ := hs.cellsAt (show S.cells m = some [.ptr m 0, b] by simp [St.cells, hm]) hio
    have hc0 : VR G (.ptr m 0) (ccs.getD (o + 0) Go.undef) := hcv 0 (by simp)
    have hcell0 : w.cell? ⟨bb, o + 0, none⟩ = some (.pointer (some ⟨bb, o + 0, none⟩)) := by
      rw [cell_of hb, getD_some (by simp at hlen; omega)]
      generalize ccs.getD (o + 0) Go.undef = u at hc0
      cases hc0 with
      | ptr _ _ b2 o2 hio2 => rw [hio] at hio2; cases hio2; rfl
    refine .inl ⟨hent _ _, (hused bb (o + 0) w hcell0).mono fun e w' ⟨he, hw⟩ => ?_⟩
    subst hw
    exact ⟨G, .refl _ _ _, hs, .refl hwf, _, he, .tuple [] _ rfl (fun i hi => by simp at hi)⟩
  · cases hg

theorem sr_freeze (hs : SR w0 G (ov S.mem F) w) {m : Nat} {ty : TypeId} (hm : S.mem m = some (.tip ty)) {b e o len : Nat} (hio : G.io m = some (b, e)) (he : o + len = e) (h0 : len ≠ 0) :
    SR w0 G (ov S.mem F) (w.freeze ⟨b, o, none⟩ len) := by
  obtain ⟨b', o', h1, hge, ccs, fr, hb, hfr, hM⟩ := hs.res m _ (ov_some hm)
  rw [hio] at h1; cases h1
  have hother : ∀ k, k ≠ b → (w.freeze ⟨b, o, none⟩ len).heap[k]? = w.heap[k]? := fun k hk => by
    unfold World.freeze
    rw [if_neg h0]
    simp only [Array.getElem?_modify]
    rw [if_neg (fun e => hk e.symm)]
  have hthis : ∃ fr', (w.freeze ⟨b, o, none⟩ len).heap[b]? = some (.cells ccs ty fr') ∧ fr'.2 ≤ e := by
    unfold World.freeze
    rw [if_neg h0]
    simp only [Array.getElem?_modify, if_pos, hb, Option.map_some]
    refine ⟨_, rfl, ?_⟩
    split <;> simp <;> omega
  obtain ⟨fr', hb', hfr'⟩ := hthis
  have hcell : ∀ k off, (w.freeze ⟨b, o, none⟩ len).cell? ⟨k, off, none⟩ = w.cell? ⟨k, off, none⟩ := fun k off => by
    by_cases hk : k = b
    · subst hk; rw [cell_of hb', cell_of hb]
    · exact World.cell?_of_block (w := w) (hother k hk)
  have hself : upd (ov S.mem F) m (some (.tip ty)) = ov S.mem F := by
    funext k
    unfold upd
    split
    · rename_i ek; subst ek; exact (ov_some hm).symm
    · rfl
  rw [← hself]
  refine hs.turn (ov_some hm) hio ?_ ?_ ?_ ?_ hother (fun off v hv => by rw [hcell]; exact hs.imm _ _ _ hv) (fun k hk => ?_) ⟨ccs, fr', hb', hfr', hM⟩
  · unfold World.freeze; split <;> rfl
  · unfold World.freeze; split <;> rfl
  · unfold World.freeze; split <;> rfl
  · unfold World.freeze; split <;> simp
  · obtain ⟨ccs2, ty2, fr2, e1, e2⟩ := hs.size b k hk
    rw [hb] at e1; cases e1
    exact ⟨_, _, _, hb', e2⟩

theorem bldString_callS {f U : Nat} (hent : ∀ args w, (callFunc f args).run P w = .ok (.enter f args) w)
    (hnil : ∀ b o w, w.cell? ⟨b, o + 1, none⟩ = some (.slice none 0 0) → Calls P f #[.pointer (some ⟨b, o, none⟩)] w fun e w' => e = .returned (.string ⟨#[]⟩) ∧ w' = w.drew)
    (hrow : ∀ b o g og cap cells w (l : List UInt8), l ≠ [] → l.length ≤ 140737488355328 → w.cell? ⟨b, o + 1, none⟩ = some (.slice (some ⟨g, og, none⟩) l.length cap) → l.length ≤ cap → w.shape? g = some (U, cells) → og + cap ≤ cells →
      (∀ j x, l[j]? = some x → w.cell? ⟨g, og + j, none⟩ = some (.int .u8 x.toNat)) →
      Calls P f #[.pointer (some ⟨b, o, none⟩)] w fun e w' => e = .returned (.string ⟨l.toArray⟩) ∧ w' = w.drew.freeze ⟨g, og, none⟩ l.length)
    {args : List AV} {v : AV} {S' : St} (hg : bldStringG U args S = some (v, S')) : CallS P f args S (.ret v) S' ∧ S.next ≤ S'.next := by
  unfold bldStringG at hg
  split at hg
  case h_2 => cases hg
  rename_i n
  split at hg
  · rename_i a hm
    cases hg
    refine ⟨?_, Nat.le_refl _⟩
    intro w0 G F w cargs _ hv hs hwf hFO hFN
    obtain ⟨l⟩ := cargs
    cases hv with
    | cons h t =>
    cases t
    cases h with
    | ptr _ _ bb o hio =>
    obtain ⟨hge, ccs, ty, hb, hlen, hcv, _⟩ := hs.cellsAt hm hio
    have hc0 : VR G .nils (ccs.getD (o + 1) Go.undef) := hcv 1 (by simp)
    have hcell0 : w.cell? ⟨bb, o + 0 + 1, none⟩ = some (.slice none 0 0) := by
      rw [Nat.add_zero, cell_of hb, getD_some (by simp at hlen; omega)]
      generalize ccs.getD (o + 1) Go.undef = u at hc0
      cases hc0; rfl
    refine .inl ⟨hent _ _, (hnil bb (o + 0) w hcell0).mono fun e w' ⟨he, hw⟩ => ?_⟩
    subst hw
    exact ⟨G, .refl _ _ _, hs.drawn _, .refl hwf, _, he, .str []⟩
  · rename_i a xs m hm
    split at hg
    case h_2 => cases hg
    rename_i ty bs htip hbs
    split at hg
    case isFalse => cases hg
    rename_i hty
    obtain ⟨rfl, hlen47⟩ := hty
    cases hg
    refine ⟨?_, Nat.le_refl _⟩
    intro w0 G F w cargs _ hv hs hwf hFO hFN
    obtain ⟨l⟩ := cargs
    cases hv with
    | cons h t =>
    cases t
    cases h with
    | ptr _ _ bb o hio =>
    obtain ⟨hge, ccs, tyb, hb, hlen, hcv, _⟩ := hs.cellsAt hm hio
    have hc0 : VR G (.lst xs (.tag m)) (ccs.getD (o + 1) Go.undef) := hcv 1 (by simp)
    have hcell0 : w.cell? ⟨bb, o + 0 + 1, none⟩ = some (ccs.getD (o + 1) Go.undef) := by
      rw [Nat.add_zero, cell_of hb, getD_some (by simp at hlen; omega)]
    generalize ccs.getD (o + 1) Go.undef = u at hc0 hcell0
    cases hc0 with
    | elst _ _ _ ht => rcases ht with h | ⟨h, _⟩ <;> cases h
    | lst _ _ g og cap s val hcap hsz hMM hvv ht =>
    obtain ⟨hiom, hpos, mm, hsm, hmm⟩ := ht
    obtain ⟨b', o', q1, q2, ccs2, fr2, hb2, hfr2, _⟩ := hs.res m _ (ov_some htip)
    rw [hiom] at q1; cases q1
    obtain rfl := byteList_eq hbs
    rw [flat_u8] at hMM hvv
    have hs1 : s = 1 := by
      cases bs with
      | nil => simp at hpos
      | cons c l => exact (hsz (u8 c) (by simp)).symm
    subst hs1
    have hlen1 : (bs.map u8).length = bs.length := by simp
    have hsz2 : ∃ ty3 fr3 ccs3, w.heap[g]? = some (.cells ccs3 ty3 fr3) ∧ mm ≤ ccs3.size := by
      obtain ⟨c3, t3, f3, e1, e2⟩ := hs.size _ _ hsm
      exact ⟨t3, f3, c3, e1, e2⟩
    obtain ⟨ty3, fr3, ccs3, e1, e2⟩ := hsz2
    rw [hb2] at e1; cases e1
    have hcells : ∀ j x, bs[j]? = some x → w.cell? ⟨g, og + j, none⟩ = some (.int .u8 x.toNat) := by
      intro j x hj
      obtain ⟨hlt, rfl⟩ := List.getElem?_eq_some_iff.1 hj
      have h1 := hs.imm _ _ _ (hMM j (by simpa using hlt))
      have h2 := hvv j (by simpa using hlt)
      rw [h1]
      simp only [List.getElem_map] at h2
      generalize val j = u at h2
      cases h2; rfl
    have hne : bs ≠ [] := by rintro rfl; simp at hpos
    have hcap' : bs.length ≤ cap := by omega
    rw [hlen1] at hcell0
    refine .inl ⟨hent _ _, (hrow bb (o + 0) g og cap ccs2.size w bs hne hlen47 hcell0 hcap' (by simp [World.shape?, hb2]) (by omega) hcells).mono fun e w' ⟨he, hw⟩ => ?_⟩
    subst hw
    refine ⟨G, .refl _ _ _, sr_freeze (hs.drawn _) htip hiom (by rw [flat_u8]; simp) (by omega), .refl hwf, _, he, ?_⟩
    exact .str bs
  · cases hg
end Go.Proofs.Ytfphpjinimfhfaa.VM
