/- The contracts of sha's small functions. -/
import Derived.Test.YtlgaikknodoilaaDoorShMem
import Derived.Test.YtlgaikknodoilaaDoorShTurn
import Derived.WalkSpells
import Derived.Lib.Hide
namespace Go.Proofs.YtlgaikknodoilaaDoor.Sh
set_option linter.unusedVariables false
set_option linter.unusedSimpArgs false
open Go Go.RowKit

theorem info_a8 : (Tryd.prog.info? 51).map (·.size) = some 8 := by kernel_rfl
theorem info_a8v (v : V8) : (Tryd.prog.info? 51).map (·.size) = some (Value.agg (A8 v)).cells.size := info_a8

theorem new_at (w : World) : HashAt (w.alloc (.cells #[.int .u32 0, .int .u32 0, .int .u32 0, .int .u32 0, .int .u32 0, .int .u32 0, .int .u32 0, .int .u32 0, .slice none 0 0, .int .i64 0] 53)) w.heap.size [] :=
  ⟨V8.zero, .slice none 0 0, heap_new w _, RD.nil, fun h => absurd h (by simp)⟩

set_option maxHeartbeats 400000 in
theorem new_calls (w : World) :
    Calls Tryd.prog 15 #[] w fun e w' => e = .returned (.pointer (some ⟨w.heap.size, 0, none⟩)) ∧ HashAt w' w.heap.size [] ∧ Below w.heap.size w w' ∧ w'.heap.size = w.heap.size + 1 := by
  go_enter Tryd.func15, Tryd.ntmps15
  go_wp2
  go_ret
  exact ⟨rfl, new_at w, (Below.refl _ _).alloc (Nat.le_refl _) _, by simp⟩

set_option maxHeartbeats 400000 in
theorem words_calls (p : Nat) (m : Bs) (w : World) (ht : Tab w) (hh : HashAt w p m) :
    Calls Tryd.prog 26 #[.pointer (some ⟨p, 0, none⟩)] w fun e w' => e = .returned (.agg (A8 (state m))) ∧ Below w.heap.size w w' := by
  have hlt := hh.lt
  obtain ⟨v, lv, hb, _, hv⟩ := hh.here
  have hmany : w.cell? ⟨p, 9, none⟩ = some (.int .i64 (m.length : Int)) := by rw [cell_of_row w p 9 _ _ _ hb]; rfl
  obtain ⟨tf, ff, hg⟩ := ht.first
  replace hg := Lib.hid hg
  have hbb := Lib.hid hb
  have hvv := Lib.hid hv
  clear hb hv
  go_enter Tryd.func26, Tryd.ntmps26
  go_wp2_with (first
    | (refine wpList_load_blk rfl 51 (.global 0) rfl 0 0 rfl _ _ _ (heap_old hg.out _) (A8 first) rfl _ Tryd.underlying51 rfl info_a8 ?_)
    | (refine wpList_load_blk rfl 51 (.tmp 11) rfl p 0 rfl _ _ _ (heap_old hbb.out _) (A8 v) rfl _ Tryd.underlying51 rfl info_a8 ?_)
    | (refine wpList_store_upd rfl 51 _ _ rfl w.heap.size 0 (.agg (A8 _)) rfl rfl _ _ (heap_new w _) (info_a8v _) (Nat.le_refl 8) (one_A8 _) rfl ?_; intro w2 hu2))
  · have hlen : m.length < 64 := by omega
    have hb2 := hu2.here
    refine bodyPost_ret (ret_row (P := Tryd.prog) rfl _ w.heap.size _ (A8 first) _ _ rfl hb2 Tryd.underlying51 rfl info_a8) rfl ⟨by rw [state_short m hlen], ?_⟩
    exact ((Below.refl _ _).alloc (Nat.le_refl _) _).trans (hu2.below (Nat.le_refl _))
  · have hlen : 64 ≤ m.length := by omega
    have hb2 := hu2.here
    refine bodyPost_ret (ret_row (P := Tryd.prog) rfl _ w.heap.size _ (A8 v) _ _ rfl hb2 Tryd.underlying51 rfl info_a8) rfl ⟨by rw [hvv.out hlen], ?_⟩
    exact ((Below.refl _ _).alloc (Nat.le_refl _) _).trans (hu2.below (Nat.le_refl _))

theorem elem_u8 : Elem Tryd.prog 22 5 1 :=
  ⟨Tryd.underlying22, by
    obtain ⟨i, hi, hz0, hz1, hz2⟩ := info_parts (P := Tryd.prog) (e := 5) (z := .int .u8 0) (size := 1) (bytes := 1) (by kernel_rfl)
    exact ⟨i, _, hi, hz0, hz1, hz2, rfl⟩⟩

/-- What a fresh copy owns. -/
def Own (base : Nat) (w : World) (v : Value) (m : Bs) : Prop := w.ownsRow base 5 1 v m.length (m.map bv)
theorem Own.rd {base : Nat} {w : World} {v : Value} {m : Bs} (h : Own base w v m) : RD w.heap.size w v m := RV.of_owns h

theorem own_empty (w : World) : (w.alloc (.cells #[] 5)).ownsRow w.heap.size 5 1 (.slice (some ⟨w.heap.size, 0, none⟩) 0 0) 0 [] :=
  World.ownsRow_lit w #[] 0 (Nat.le_refl _) (Nat.zero_le _) rfl

set_option maxHeartbeats 400000 in
theorem clone_calls (v : Value) (m : Bs) (w : World) (hv : RD w.heap.size w v m) (hm : m.length ≤ 140737488355328) :
    Calls Tryd.prog 28 #[v] w fun e w' => ∃ v', e = .returned v' ∧ Own w.heap.size w' v' m ∧ Below w.heap.size w w' := by
  have hvv := Lib.hid hv
  obtain ⟨a, c, rfl, hc, _⟩ := hv.form
  have hnil : a = none → m = [] := by
    rintro rfl
    obtain ⟨a', c', h1, h2, h3, h4, _⟩ := hv
    obtain ⟨rfl, rfl⟩ : none = a' ∧ c = c' := by simpa using h1
    have := h4 rfl
    exact List.length_eq_zero_iff.1 (by omega)
  have key := Lib.hid hnil
  clear hv hnil
  have hq := @Lib.run_eql_slice_nil Tryd.prog
  cases a with
  | none =>
    have := key.out rfl
    subst this
    go_enter Tryd.func28, Tryd.ntmps28
    go_wp2_with fail
    go_ret
    exact ⟨_, rfl, ownsRow_free, Below.refl _ _⟩
  | some a =>
    go_enter Tryd.func28, Tryd.ntmps28
    go_wp2_with (at_builtin; refine wpList_append_mine rfl (.tmp 5) (.tmp 6) 22 rfl elem_u8 rfl rfl (own_empty w) (by simp) ((RV.below hvv.out ((Below.refl _ _).alloc (Nat.le_refl _) _))) (one_bytes m) ?_ ?_ ?_)
    · simp only [List.length_map, maxLen]; omega
    · simp only [List.length_map]; omega
    · intro v' w' hg ho
      go_wp2_with fail
      go_ret
      refine ⟨v', rfl, by simpa [Own] using ho, ?_⟩
      exact ((Below.refl _ _).alloc (Nat.le_refl _) _).trans (grown_below hg (by simp) (fun k e => by simp [Value.ownBlock] at e; omega))

set_option maxHeartbeats 400000 in
theorem copyBytes_calls (v : Value) (m : Bs) (w : World) (hv : RD w.heap.size w v m) (hm : m.length ≤ 140737488355328) :
    Calls Tryd.prog 13 #[v] w fun e w' => ∃ v', e = .returned v' ∧ Own w.heap.size w' v' m ∧ Below w.heap.size w w' := by
  have hvv := Lib.hid hv
  clear hv
  go_enter Tryd.func13, Tryd.ntmps13
  go_wp2_with (at_builtin; refine wpList_append_mine rfl (.tmp 4) (.tmp 5) 22 rfl elem_u8 rfl rfl (base := w.heap.size) ownsRow_free (Nat.le_refl _) hvv.out (one_bytes m) ?_ ?_ ?_)
  · simp only [List.length_map, maxLen]; omega
  · simp only [List.length_map]; omega
  · intro v' w' hg ho
    go_wp2_with fail
    go_ret
    exact ⟨v', rfl, by simpa [Own] using ho, grown_none (by simpa [Value.ownBlock] using hg)⟩
end Go.Proofs.YtlgaikknodoilaaDoor.Sh
