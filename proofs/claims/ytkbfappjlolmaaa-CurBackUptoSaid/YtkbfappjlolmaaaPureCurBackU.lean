/- What was put is read, with anything behind it: for slices of bytes of 1048576 bytes together. -/
import Derived.Test.YtkbfappjlolmaaaPx0
import Derived.Test.YtkbfappjlolmaaaPx2
import Derived.Test.YtkbfappjlolmaaaPx5
import Derived.Test.YtkbfappjlolmaaaPx6
import Derived.Test.YtkbfappjlolmaaaPx9
import Derived.Test.YtkbfappjlolmaaaPx12
import Derived.Test.YtkbfappjlolmaaaCurRead
import Derived.Test.YtkbfappjlolmaaaCurShort
import Derived.Test.YtkbfappjlolmaaaCurWide
namespace Go.Proofs.Ytkbfappjlolmaaa.Pure
open Go.RowKit Go.Proofs.Ytkbfappjlolmaaa.P Go.Proofs.YtkbfappjlolmaaaW.PrintWords Go.Proofs.YtkbfappjlolmaaaW.PrintLast Go.Proofs.YtkbfappjlolmaaaW.PrintMore
set_option linter.unusedVariables false
set_option linter.unusedSimpArgs false

theorem wide_read (n : Int) (h0 : 0 ≤ n) (hn : n < 18446744073709551616) : ∀ (j : Nat), j ≤ 8 → cur_Cursor_Wide.g (n / 256 ^ j) (wide j n) = n := by
  intro j
  induction j with
  | zero => intro _; rw [wide, cur_Cursor_Wide.g]; simp
  | succ j ih =>
    intro hj
    rw [wide, cur_Cursor_Wide.g]
    have e : n / 256 ^ (j + 1) = n / 256 ^ j / 256 := by
      have hp : (0 : Int) < 256 ^ j := Int.pow_pos (by decide)
      rw [Int.pow_succ, Int.ediv_ediv, if_neg (fun h => absurd h.1 (by omega)), Int.sub_zero]
    have h1 : n / 256 ^ j ≤ n := Int.ediv_le_self _ h0
    have h2 : 0 ≤ n / 256 ^ j := Int.ediv_nonneg h0 (Int.le_of_lt (Int.pow_pos (by decide)))
    rw [e, wrap_u64_id (by omega) (by omega), wrap_u64_id (by omega) (by omega), or8 _ _ (by omega) (by omega) (by omega) (by omega) (by omega), show n / 256 ^ j / 256 * 256 + n / 256 ^ j % 256 = n / 256 ^ j by omega]
    exact ih (by omega)
theorem CurBackU : gantlinelaw02_CurBack.PureU := by
  intro l b n hm hl hw hm2 hl2 hw2 hn hU
  refine ⟨60, ?_⟩
  obtain ⟨n0, n1⟩ := u64_wf hn
  obtain ⟨m, rfl⟩ := Int.eq_ofNat_of_zero_le n0
  have hz : (m : Int) / 256 ^ 8 = 0 := by omega
  have hs := short_len m (by omega)
  unfold gantlinelaw02_CurBack.f
  rw [putshort_eq l m (by omega) (by omega) 60 (by omega), Option.bind_some]
  have hq := curwide_good (l ++ short m) m 8 (by omega) n0 hz (by rw [List.length_append]; omega) 60 (by omega)
  rw [show ((8 : Nat) : Int) = 8 from rfl] at hq
  rw [hq]
  simp only [Option.bind_some, List.nil_append, List.length_nil, Nat.zero_add]
  have hlen : (l ++ short m ++ wide 8 (m : Int)).length = l.length + (short m).length + 8 := by rw [List.length_append, List.length_append, wide_len]
  rw [if_pos (by omega), if_pos (by omega)]
  unfold cur_New.f
  have hlen2 : (l ++ short m ++ wide 8 (m : Int) ++ b).length = l.length + (short m).length + 8 + b.length := by rw [List.length_append, hlen]
  rw [if_pos (by omega)]
  simp only [Option.bind_some, if_true]
  rw [gantlinelaw02_CurBack.j0, if_neg (by simp)]
  unfold cur_Cursor_Take.f cur_Cursor_take.f
  rw [if_pos ⟨rfl, rfl, rfl⟩, if_pos ⟨by omega, by omega, by omega⟩, if_neg (by omega), if_neg (by omega)]
  simp only [Option.bind_some, Int.zero_add, Int.toNat_natCast, Int.toNat_zero, List.drop_zero]
  have ht : List.take l.length (l ++ short m ++ wide 8 (m : Int) ++ b) = l := by rw [List.append_assoc, List.append_assoc, List.take_left]
  rw [ht, if_pos (by omega)]
  simp only [Option.bind_some]
  unfold cur_Cursor_Short.f
  rw [if_pos ⟨rfl, rfl, rfl⟩, if_pos ⟨by omega, by omega, by omega⟩]
  have hd : List.drop (l.length : Int).toNat (l ++ short m ++ wide 8 (m : Int) ++ b) = short m ++ (wide 8 (m : Int) ++ b) := by rw [Int.toNat_natCast, List.append_assoc, List.append_assoc, List.drop_left]
  rw [hd, read_short _ _ m (by omega)]
  simp only [Option.bind_some]
  unfold cur_Cursor_Wide.f cur_Cursor_take.f
  rw [if_pos ⟨rfl, rfl, rfl⟩, if_pos (by omega), if_pos ⟨rfl, rfl, rfl⟩, if_pos ⟨by omega, by omega, by omega⟩, if_neg (by omega), if_neg (by omega)]
  simp only [Option.bind_some]
  have e1 : ((l.length : Int) + ((short m).length : Int) + 8).toNat = (l ++ short m ++ wide 8 (m : Int)).length := by rw [hlen]; omega
  have e2 : ((l.length : Int) + ((short m).length : Int)).toNat = (l ++ short m).length := by rw [List.length_append]; omega
  rw [e1, List.take_left, e2, List.drop_left, if_pos (by rw [wide_len]; omega)]
  simp only [Option.bind_some]
  rw [same_self]
  simp only [Option.bind_some, if_true]
  have hr := wide_read m n0 n1 8 (by omega)
  rw [hz] at hr
  rw [if_pos hr]
  unfold cur_Cursor_Left.f cur_Cursor_Fault.f
  simp only [Option.bind_some, if_true]
  rw [if_pos (by rw [hlen2]; unfold wrap64; omega), if_pos (by simp), cur_alive' 59 (by omega)]
  rfl
end Go.Proofs.Ytkbfappjlolmaaa.Pure
