-- what is read of an argument of any kind is one of the print's rows (a text of this session, printed for the seat by fprint.py)
import Derived.Test.YtkbfappjlolmaaaRows
import Derived.Test.YtkbfappjlolmaaaBulk
import Derived.Test.YtkbfappjlolmaaaWWords
import Derived.Test.YtkbfappjlolmaaaWArr
import Derived.ChangeSlices
import Derived.Deep.Slices
import Derived.Below
namespace Go.Proofs.Ytkbfappjlolmaaa.rd
open Go.ChangeShapes Go.WideShapes Go.Deep Go.Proofs.YtkbfappjlolmaaaW.PrintWords

/-- What reads at type t is one of k's values, of which 'ok' holds, and which weighs no more than the datum's bulk. -/
def Rd {α : Type} (P : Program) (k : Kd α) (t : TypeId) (ok : α → Prop) (wt : α → Nat) : Prop :=
  ∀ (H : Type) (enc : TypeId × Value → H) (w : World) (base : Nat) (sp : Nat → Bool) (held : Bool) (fuel : Nat) (cs : List Value) (x : DataW H × List MemPlace), DataW.trod enc P w base sp held fuel t cs = some x → ∃ a, k.K w a cs ∧ ok a ∧ wt a ≤ Rows.uptoBulk x.1
/-- The same of a struct's fields, from the place 'off' on. -/
def RdF {α : Type} (P : Program) (k : Kd α) (fs : List Field) (off : Nat) (ok : α → Prop) (wt : α → Nat) : Prop :=
  ∀ (H : Type) (enc : TypeId × Value → H) (w : World) (base : Nat) (sp : Nat → Bool) (held : Bool) (fuel : Nat) (cs : List Value) (xs : List (DataW H × List MemPlace)), cs.length = k.sz → xs.length = fs.length →
    (∀ (i : Nat) (f : Field), fs[i]? = some f → DataW.trod enc P w base sp held fuel f.type ((cs.drop (f.offset - off)).take (P.cellsOf f.type)) = xs[i]?) → ∃ a, k.K w a cs ∧ ok a ∧ wt a ≤ Rows.uptoBulkAll (xs.map (·.1))

theorem int {P : Program} {t : TypeId} {k : IntKind} (ht : P.underlying t = some (.int k)) : Rd P (Kd.int k) t (fun a => (Lit.int k a).wf = true) (fun _ => 1) := by
  intro H enc w base sp held fuel cs x h
  obtain ⟨n, rfl, rfl, hw⟩ := DataW.trod_int ht h
  exact ⟨n, rfl, hw, bulks.one_le _⟩
theorem bool {P : Program} {t : TypeId} (ht : P.underlying t = some .bool) : Rd P Kd.bool t (fun _ => True) (fun _ => 1) := by
  intro H enc w base sp held fuel cs x h
  obtain ⟨n, rfl, rfl⟩ := DataW.trod_bool ht h
  exact ⟨n, rfl, trivial, bulks.one_le _⟩
theorem string {P : Program} {t : TypeId} (ht : P.underlying t = some .string) : Rd P Kd.string t (fun a => a.size ≤ maxLen) (fun a => a.size + 1) := by
  intro H enc w base sp held fuel cs x h
  obtain ⟨s, rfl, rfl, hw⟩ := DataW.trod_string ht h
  exact ⟨s, rfl, hw, by rw [bulks.string_eq]; simp⟩
theorem slice {α : Type} {P : Program} {k : Kd α} {t e : TypeId} {ok : α → Prop} {wt : α → Nat} (ht : P.underlying t = some (.slice e)) (hz : P.cellsOf e = k.sz) (h : Rd P k e ok wt) :
    Rd P (Kd.slice e k) t (fun l => l.length ≤ maxLen ∧ ∀ x ∈ l, ok x) (fun l => (l.map wt).sum + 1) := by
  intro H enc w base sp held fuel cs x hx
  rcases open_slice ht hx with ⟨rfl, rfl⟩ | ⟨ad, len, cap, m, n, D, Pl, rfl, hb, hl, hm, hmm, rfl, hel⟩
  · exact ⟨[], ⟨none, 0, rfl, Nat.le_refl _, Kd.C_nil _ _⟩, ⟨by simp, by simp⟩, by simp [Rows.uptoBulk]⟩
  · by_cases h0 : len = 0
    · subst h0
      exact ⟨[], ⟨some ad, cap, rfl, Nat.zero_le _, ⟨rfl, by simp, fun h => absurd h (by simp)⟩⟩, ⟨by simp, by simp⟩, by simp [Rows.uptoBulk]⟩
    have hlm : len ≤ m := by rw [hmm]; split <;> omega
    have each : ∀ i, i < len → ∃ q : α × List Value, k.K w q.1 q.2 ∧ ok q.1 ∧ wt q.1 ≤ Rows.uptoBulk (D i) ∧ w.cells? base (ad.add (i * P.cellsOf e)) (P.cellsOf e) = some q.2 := by
      intro i hi
      obtain ⟨cs', h1, h2⟩ := hel i (by omega)
      obtain ⟨a, h3, h4, h5⟩ := h H enc w base sp held n cs' _ h2
      exact ⟨(a, cs'), h3, h4, h5, h1⟩
    have : Inhabited (α × List Value) := ⟨Classical.choose (each 0 (by omega))⟩
    obtain ⟨q, hq⟩ := choose_lt each
    have hlen : ((List.range len).map fun i => (q i).1).length = len := by simp
    refine ⟨(List.range len).map fun i => (q i).1, ⟨some ad, cap, by rw [hlen], by rw [hlen]; exact hl, ⟨rfl, by rw [hlen]; exact Nat.le_trans hl (Nat.le_trans hm (by decide)), fun _ => ⟨ad, rfl, ?_⟩⟩⟩, ⟨by rw [hlen]; exact Nat.le_trans hl hm, ?_⟩, ?_⟩
    · intro j p hj
      rw [List.getElem?_map] at hj
      have hj2 : j < len := by
        rcases Nat.lt_or_ge j len with h0 | h0
        · exact h0
        · rw [List.getElem?_eq_none (by simpa using h0)] at hj; cases hj
      rw [List.getElem?_range hj2] at hj
      obtain rfl : (q j).1 = p := by simpa using hj
      obtain ⟨h1, h2, h3, h4⟩ := hq j hj2
      obtain ⟨_, h5, h6⟩ := World.cells?_some h4
      refine ⟨(q j).2, k.K_len h1, h1, fun i u hu => ?_⟩
      have h7 : i < P.cellsOf e := by
        rcases Nat.lt_or_ge i (P.cellsOf e) with h0 | h0
        · exact h0
        · rw [List.getElem?_eq_none (by omega)] at hu; cases hu
      have h8 := h6 i h7
      rw [hu, Go.Deep.add_add, hz] at h8
      exact h8
    · intro x hx
      obtain ⟨i, hi, rfl⟩ := List.mem_map.1 hx
      exact (hq i (List.mem_range.1 hi)).2.1
    · simp only [Rows.uptoBulk]
      have hs : ∀ L : List Nat, (∀ i ∈ L, i < len) → ((L.map fun i => (q i).1).map wt).sum ≤ Rows.uptoBulkAll (L.map D) := by
        intro L
        induction L with
        | nil => intro _; simp [Rows.uptoBulkAll]
        | cons i L ih =>
          intro hL
          have h1 := ih (fun j hj => hL j (by simp [hj]))
          have h2 := (hq i (hL i (by simp))).2.2.1
          simp only [List.map_cons, List.sum_cons, Rows.uptoBulkAll]
          omega
      have := hs (List.range len) (fun i hi => List.mem_range.1 hi)
      omega
theorem iso {α β : Type} {P : Program} {d : Kd α} {t : TypeId} {ok : α → Prop} {wt : α → Nat} (f : β → α) (g : α → β) (hg : ∀ a, f (g a) = a) (h : Rd P d t ok wt) : Rd P (Kd.iso d f) t (fun b => ok (f b)) (fun b => wt (f b)) := by
  intro H enc w base sp held fuel cs x hx
  obtain ⟨a, h1, h2, h3⟩ := h H enc w base sp held fuel cs x hx
  exact ⟨g a, show d.K w (f (g a)) cs by rw [hg]; exact h1, show ok (f (g a)) by rw [hg]; exact h2, show wt (f (g a)) ≤ _ by rw [hg]; exact h3⟩
theorem last {α : Type} {P : Program} {k : Kd α} {f : Field} {off : Nat} {ok : α → Prop} {wt : α → Nat} (hz : P.cellsOf f.type = k.sz) (ho : f.offset = off) (h : Rd P k f.type ok wt) : RdF P k [f] off ok wt := by
  intro H enc w base sp held fuel cs xs hl hxl hx
  match xs, hxl with
  | [x], _ =>
    have h0 := hx 0 f rfl
    rw [ho, Nat.sub_self, List.drop_zero, hz, ← hl, List.take_length] at h0
    obtain ⟨a, h1, h2, h3⟩ := h H enc w base sp held fuel cs x h0
    exact ⟨a, h1, h2, by simp only [List.map_cons, List.map_nil, Rows.uptoBulkAll]; omega⟩
theorem cons {α β : Type} {P : Program} {k : Kd α} {kr : Kd β} {f : Field} {fs : List Field} {off : Nat} {ok : α → Prop} {okr : β → Prop} {wt : α → Nat} {wtr : β → Nat} (hz : P.cellsOf f.type = k.sz) (ho : f.offset = off) (hr : ∀ g ∈ fs, off + k.sz ≤ g.offset) (h : Rd P k f.type ok wt) (hs : RdF P kr fs (off + k.sz) okr wtr) :
    RdF P (Kd.pair k kr) (f :: fs) off (fun a => ok a.1 ∧ okr a.2) (fun a => wt a.1 + wtr a.2) := by
  intro H enc w base sp held fuel cs xs hl hxl hx
  have hl2 : cs.length = k.sz + kr.sz := hl
  match xs, hxl with
  | x :: xs, hxl =>
    have h0 := hx 0 f rfl
    rw [ho, Nat.sub_self, List.drop_zero, hz] at h0
    obtain ⟨a, h1, h2, h3⟩ := h H enc w base sp held fuel _ x h0
    obtain ⟨b, h4, h5, h6⟩ := hs H enc w base sp held fuel (cs.drop k.sz) xs (by rw [List.length_drop]; omega) (by simpa using hxl) (by
      intro i g hi
      have h7 := hx (i + 1) g (by simpa using hi)
      have h8 := hr g (List.mem_of_getElem? hi)
      rw [List.drop_drop, show k.sz + (g.offset - (off + k.sz)) = g.offset - off by omega]
      simpa using h7)
    exact ⟨(a, b), ⟨_, _, (List.take_append_drop k.sz cs).symm, h1, h4⟩, ⟨h2, h5⟩, by simp only [List.map_cons, Rows.uptoBulkAll]; omega⟩
theorem struct {α : Type} {P : Program} {k : Kd α} {t : TypeId} {fs : Array Field} {ok : α → Prop} {wt : α → Nat} (ht : P.underlying t = some (.struct fs)) (hz : P.cellsOf t = k.sz) (h : RdF P k fs.toList 0 ok wt) : Rd P k t ok (fun a => wt a + 1) := by
  intro H enc w base sp held fuel cs x hx
  obtain ⟨xs, n, rfl, rfl, hl, hxl, hf⟩ := DataW.trod_struct ht hx
  obtain ⟨a, h1, h2, h3⟩ := h H enc w base sp held n cs xs (by rw [hl, hz]) (by simpa using hxl) (by
    intro i f hi
    rw [Nat.sub_zero]
    exact hf i f (by simpa using hi))
  exact ⟨a, h1, h2, by simp only [Rows.uptoBulk]; omega⟩
theorem ge_nil {n : Nat} : ∀ g ∈ ([] : List Field), n ≤ g.offset := fun _ h => by cases h
theorem ge_cons {n : Nat} {f : Field} {fs : List Field} (h : Nat.ble n f.offset = true) (t : ∀ g ∈ fs, n ≤ g.offset) : ∀ g ∈ f :: fs, n ≤ g.offset := by
  intro g hg
  rcases List.mem_cons.1 hg with rfl | hg
  · exact Nat.le_of_ble_eq_true h
  · exact t g hg
/-- An argument that is a slice. -/
theorem arg {α : Type} {P : Program} {k : Kd α} {t e : TypeId} {ok : List α → Prop} {wt : List α → Nat} (h : Rd P (Kd.slice e k) t ok wt) {H : Type} {enc : TypeId × Value → H} {w : World} {base : Nat} {sp : Nat → Bool} {held : Bool} {a : Option Addr} {len cap : Nat} {d : DataW H} {ps : List MemPlace}
    (ht : DataW.Trod enc P w base sp held t (.slice a len cap) d ps) : ∃ l : List α, l.length = len ∧ l.length ≤ cap ∧ Kd.C k w a l.length l ∧ ok l ∧ wt l ≤ Rows.uptoBulk d := by
  obtain ⟨fuel, hf⟩ := ht
  obtain ⟨l, ⟨A, c, h1, h2, h3⟩, h4, h5⟩ := h H enc w base sp held fuel _ _ hf
  simp only [Value.cells, List.cons.injEq, and_true, Value.slice.injEq] at h1
  obtain ⟨rfl, rfl, rfl⟩ := h1
  exact ⟨l, rfl, h2, h3, h4, h5⟩
end Go.Proofs.Ytkbfappjlolmaaa.rd
