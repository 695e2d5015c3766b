/- The reference's Told. -/
import Derived.Test.YtlgaikknodoilaaDoorMaRef2
import Derived.Test.YtlgaikknodoilaaDoorShOwnZ
import Derived.Lib.AtoiErrMem
namespace Go.Proofs.YtlgaikknodoilaaDoor.Sh
set_option linter.unusedVariables false
set_option linter.unusedSimpArgs false
open Go Go.RowKit

theorem wpList_append_z {ops : Array Oper} {rest : List Oper} {op : Oper} {a : Act} {Q : Exit → Act → World → Prop} (hgd : op.guard = none) (s x : Operand)
    (ho : op.op = .call { callee := .builtin .append, args := #[s, x], argTypes := #[22, 22] }) {base : Nat} {w : World} {v : Value} {m : Bs} (hs : a.eval s = v) (h : OwnZ base w v m) (hbase : base ≤ w.heap.size)
    (q : Nat) (y : UInt8) (hx : a.eval x = .slice (some ⟨q, 0, none⟩) 1 1) (hq : w.cell? ⟨q, 0, none⟩ = some (bv y)) (hlen : m.length + 1 ≤ 1000000)
    (hk : ∀ v' w', Below base w w' → OwnZ base w' v' (m ++ [y]) → wpList Tryd.prog ops Q rest (a.put op.dst v') w') : wpList Tryd.prog ops Q (op :: rest) a w := by
  obtain ⟨v', w', hr, hb, h2⟩ := run_append_z op.type h hbase q y hq hlen
  exact wpList_plain hgd fun _ hK => wp_append_of s x 22 ho hs hx hr (hK _ _ (hk v' w' hb h2))
theorem run_str_bytes_z (s : ByteArray) (hsz : s.size ≤ 140737488355328) (w : World) :
    ∃ v' w', (convert 9 22 (.string s)).run Tryd.prog w = .ok v' w' ∧ OwnZ w.heap.size w' v' s.data.toList ∧ Below w.heap.size w w' := by
  have hmax : s.size ≤ maxLen := by simp only [maxLen]; omega
  have hl : s.data.toList.length = s.size := by rw [Array.length_toList]; rfl
  refine ⟨_, _, Lib.run_convert_string_bytes w 9 22 5 s Tryd.underlying9 Tryd.underlying22 Tryd.underlying5, ?_, Lib.bytesWorld_below w _ s⟩
  have hcs : (Lib.bytesCells w 5 s).size = grownCap w s.size 0 5 := by
    have := grownCap_ge w s.size 0 5
    have h2 : s.data.size = s.size := rfl
    simp [Lib.bytesCells, h2]; omega
  refine ⟨w.heap.size, grownCap w s.size 0 5, by rw [hl], Nat.le_refl _, by rw [Lib.bytesWorld_size]; omega, by rw [hl]; exact grownCap_ge _ _ _ _, grownCap_le_maxLen _ _ _ _ hmax, fun j hj => ⟨?_, ?_⟩, fun j u hu => ?_⟩
  · rw [cell_of_row _ _ _ _ _ _ (Lib.bytesWorld_at_new w 5 s), Array.getElem?_eq_getElem (by omega)]; rfl
  · unfold World.frozen?
    rw [Lib.bytesWorld_at_new w 5 s]
    simp only [hcs]
    rw [decide_eq_false (by omega : ¬ grownCap w s.size 0 5 ≤ j)]; rfl
  · have hj : j < s.data.toList.length := by have := (List.getElem?_eq_some_iff.1 hu).1; rw [List.length_map] at this; exact this
    rw [Lib.bytesWorld_cell w 5 s j (by rw [← hl]; exact hj)]
    rw [List.getElem?_map, List.getElem?_eq_getElem hj] at hu
    rw [List.getD_eq_getElem?_getD, List.getElem?_eq_getElem hj]
    exact hu
theorem wpList_str_bytes_z {ops : Array Oper} {rest : List Oper} {op : Oper} {a : Act} {w : World} {Q : Exit → Act → World → Prop} (hgd : op.guard = none) (x : Operand) (ho : op.op = .convert 9 22 x) (s : ByteArray) (hx : a.eval x = .string s) (hsz : s.size ≤ 140737488355328)
    (h : ∀ v' w', OwnZ w.heap.size w' v' s.data.toList → Below w.heap.size w w' → wpList Tryd.prog ops Q rest (a.put op.dst v') w') : wpList Tryd.prog ops Q (op :: rest) a w := by
  obtain ⟨v', w', hr, h1, h2⟩ := run_str_bytes_z s hsz w
  refine wpList_plain hgd fun K hK => ?_
  unfold Oper.wp execOp
  simp only [ho, hx, hr, Sem.run_bind, Sem.run_pure, Result.andThen_ok]
  exact hK _ _ (h v' w' h1 h2)
theorem OwnZ.alloc {base : Nat} {w : World} {v : Value} {m : Bs} (h : OwnZ base w v m) (o : Obj) : OwnZ base (w.alloc o) v m := h.below ((Below.refl _ _).alloc (Nat.le_refl _) o)
structure PzAt (w : World) (v : Value) (m : Bs) (wr : World) : Prop where
  own : OwnZ w.heap.size wr v m
  below : Below w.heap.size w wr
theorem new_byte (wr : World) (z : Int) (y : UInt8) (hz : z = (y.toNat : Int)) : (wr.alloc (.cells #[.int .u8 z] 5)).cell? ⟨wr.heap.size, 0, none⟩ = some (bv y) := by
  rw [cell_of_row _ _ _ _ _ _ (heap_new wr _), hz]; rfl
theorem PzAt.alloc_le {w : World} {v : Value} {m : Bs} {wr : World} (h : PzAt w v m wr) (o : Obj) : w.heap.size ≤ (wr.alloc o).heap.size := by
  have := h.below.size
  rw [World.size_alloc]; omega
theorem PzAt.push {w : World} {v v' : Value} {m m' : Bs} {wr w' : World} {o : Obj} (h : PzAt w v m wr) (hb : Below w.heap.size (wr.alloc o) w') (ho : OwnZ w.heap.size w' v' m') : PzAt w v' m' w' :=
  ⟨ho, (h.below.alloc h.below.size o).trans hb⟩

set_option maxHeartbeats 1000000 in
theorem rtold_calls (s : ByteArray) (n : Nat) (hn : n ≤ 9007199254740991) (hsz : s.size ≤ 500000) (w : World) :
    Calls Tryd.prog 37 #[.string s, .int .i64 (n : Int)] w fun e w' => ∃ v', e = .returned v' ∧ OwnZ w.heap.size w' v' (told s.data.toList n) ∧ Below w.heap.size w w' := by
  have hsl : s.data.toList.length = s.size := by rw [Array.length_toList]; rfl
  have hsz2 : s.size ≤ 140737488355328 := by omega
  have HSZ2 := Lib.hid hsz2
  have hl1 : s.data.toList.length + 1 ≤ 1000000 := by omega
  have HL1 := Lib.hid hl1
  have hl2 : ∀ j, (s.data.toList ++ [0] ++ (be 8 n).take j).length + 1 ≤ 1000000 := fun j => by
    simp only [List.length_append, List.length_cons, List.length_nil]
    rw [List.length_take, length_be]; omega
  have HL2 := Lib.hid hl2
  have HN := Lib.hid hn
  have hn0 : (0 : Int) ≤ (n : Int) := by omega
  have hn1 : (n : Int) ≤ 9007199254740991 := by omega
  clear hsl hsz2 hl1 hl2 hsz hn
  go_enter Tryd.func37, Tryd.ntmps37
  go_upto_region 2 with (first
    | (refine wpList_str_bytes_z rfl (.tmp 7) rfl s rfl HSZ2.out ?_; intro v1 w1 hz1 hb1; replace hz1 := Lib.hid (show PzAt w v1 s.data.toList w1 from ⟨hz1, hb1⟩); clear hb1)
    | (at_builtin; refine wpList_append_z rfl (.tmp 8) (.tmp 9) rfl rfl (hz1.out.own.alloc _) (hz1.out.alloc_le _) w1.heap.size 0 rfl (new_byte w1 0 0 rfl) HL1.out ?_; intro v2 w2 hb2 hz2; replace hz2 := Lib.hid (hz1.out.push hb2 hz2); clear hb2))
  have HZ := Lib.hid (show PzAt w v2 (s.data.toList ++ [0] ++ (be 8 n).take (8 - 8)) w2 by rw [Nat.sub_self, List.take_zero, List.append_nil]; exact hz2.out)
  clear hz1 hz2
  go_wp2_with fail
  go_loopg [5, 6] 8 (fun g pv iv wr => g ≤ 8 ∧ iv = .int .i64 ((g : Int) - 1) ∧ PzAt w pv (s.data.toList ++ [0] ++ (be 8 n).take (8 - g)) wr)
  case atStart => exact ⟨Nat.le_refl _, rfl, HZ.out⟩
  case round =>
    obtain ⟨hg8, rfl, hP⟩ := hrel
    have HP := Lib.hid hP
    clear hP HZ
    rcases gk with _ | k
    · go_wp2_with fail
      go_ret
      refine ⟨_, rfl, ?_, HP.out.below⟩
      have := HP.out.own
      rw [List.take_of_length_le (by rw [length_be]; exact Nat.le_refl 8)] at this
      exact this
    · have e1 : ((k + 1 : Nat) : Int) - 1 = (k : Int) := by omega
      have hk0 : (0 : Int) ≤ (k : Int) := by omega
      have hk7 : (k : Int) ≤ 7 := by omega
      have et : (be 8 n).take (8 - k) = (be 8 n).take (8 - (k + 1)) ++ [UInt8.ofNat (n >>> (8 * k))] := by
        have := be_take 8 n (8 - (k + 1)) (by omega)
        rw [show 8 - (k + 1) + 1 = 8 - k from by omega, show 8 - 1 - (8 - (k + 1)) = k from by omega] at this
        exact this
      have ET := Lib.hid et
      clear et
      rw [e1]
      clear e1
      go_wp2_with (at_builtin; refine wpList_append_z rfl (.tmp 15) (.tmp 21) rfl rfl (HP.out.own.alloc _) (HP.out.alloc_le _) wr.heap.size (UInt8.ofNat (n >>> (8 * k))) rfl (new_byte wr _ _ (be_val n (8 * k))) (HL2.out _) ?_; intro v2 w2 hb2 hz2; replace hz2 := Lib.hid (HP.out.push hb2 hz2); clear hb2)
      go_roundg k
      case measure => omega
      case rel => exact ⟨by omega, by go_num, by rw [ET.out, ← List.append_assoc]; exact hz2.out⟩
end Go.Proofs.YtlgaikknodoilaaDoor.Sh
