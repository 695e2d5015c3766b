/- num.Writer: Write, put, Raw, Num, Bytes. -/
import Derived.Test.YtlgaikknodoilaaDoorShGo
namespace Go.Proofs.YtlgaikknodoilaaDoor.Sh
set_option linter.unusedVariables false
set_option linter.unusedSimpArgs false
open Go Go.RowKit

theorem own_past {g : Nat} {w w' : World} {v : Value} {m : Bs} (h : Own g w v m) (hb : ∀ b, g ≤ b → b < w.heap.size → w'.heap[b]? = w.heap[b]?) : Own g w' v m := by
  obtain ⟨h1, h | ⟨b, cap, cur, e, h2, h3, h4⟩⟩ := h
  · exact ⟨h1, .inl h⟩
  · exact ⟨h1, .inr ⟨b, cap, cur, e, h2, (hb b h2 (lt_of_heap h3)).trans h3, h4⟩⟩
/-- A writer at p, a block of the walk's own: it holds c; nothing was wrong. -/
structure WrAt (w0 : World) (p : Nat) (c : Bs) (w : World) : Prop where
  li : LI w0 w
  own : w0.heap.size ≤ p
  row : ∃ v, w.heap[p]? = some (.cells #[v, .int .i64 0] 71 (0, 0)) ∧ Own (p + 1) w v c
theorem WrAt.call {w0 w w' : World} {p : Nat} {c : Bs} (h : WrAt w0 p c w) (hb : Below w.heap.size w w') : WrAt w0 p c w' := by
  obtain ⟨v, h1, h2⟩ := h.row
  exact ⟨h.li.call hb, h.own, v, heap_below h1 hb (lt_of_heap h1), own_past h2 fun b _ hb' => hb.block b hb'⟩

set_option maxHeartbeats 400000 in
theorem or_calls (q : Nat) (w : World) (h : w.heap[q]? = some (.cells #[.int .i64 0, .int .i64 0] 42 (0, 0))) :
    Calls Tryd.prog 50 #[.slice (some ⟨q, 0, none⟩) 2 2] w fun e w' => e = .returned (.int .i64 0) ∧ w = w' := by
  have hc : ∀ k : Nat, k < 2 → w.cell? ⟨q, k, none⟩ = some (.int .i64 0) := fun k hk => by
    rw [cell_of_row w q k _ _ _ h]
    match k, hk with
    | 0, _ | 1, _ => rfl
  have HC := Lib.hid hc
  clear hc h
  go_enter Tryd.func50, Tryd.ntmps50
  go_wp2_with fail
  go_loopg [8] 2 (fun g iv wr => ∃ k : Nat, k + g = 2 ∧ iv = .int .i64 k ∧ wr = w)
  case atStart => exact ⟨0, rfl, rfl, rfl⟩
  case round =>
    obtain ⟨k, hk, rfl, rfl⟩ := hrel
    by_cases hlt : k < 2
    · have ck := HC.out k hlt
      go_wp2_with fail
      go_roundg (gk - 1)
      case measure => omega
      case rel => exact ⟨k + 1, by omega, by go_num, rfl⟩
    · obtain rfl : k = 2 := by omega
      go_wp2_with fail
      go_ret
      exact ⟨rfl, rfl⟩

theorem nwrite_calls (w0 w : World) (h : LI w0 w) :
    Calls Tryd.prog 31 #[] w fun e w' => ∃ p, e = .returned (.pointer (some ⟨p, 0, none⟩)) ∧ WrAt w0 p [] w' ∧ Below w.heap.size w w' := by
  go_enter Tryd.func31, Tryd.ntmps31
  go_wp2
  go_ret
  exact ⟨_, rfl, ⟨h.alloc _, h.bel.size, _, heap_new w _, ownsRow_free⟩, (Below.refl _ _).alloc (Nat.le_refl _) _⟩

theorem info_errno : (Tryd.prog.info? 42).map (·.size) = some 1 := by kernel_rfl
theorem put_wr1 (v : Value) : put #[v, .int .i64 0] 1 (Value.int .i64 0).cells = #[v, .int .i64 0] := rfl
theorem put_wr0 (v : Value) (a : Option Addr) (l c : Nat) : put #[v, .int .i64 0] 0 (Value.slice a l c).cells = #[.slice a l c, .int .i64 0] := rfl
theorem wr_mid {w0 w w2 : World} {p : Nat} {c : Bs} {v : Value} {o : Obj} (h : WrAt w0 p c w) (h2 : Own (p + 1) w v c) (hu : Upd p (.cells #[v, .int .i64 0] 71 (0, 0)) (w.alloc o) w2) : Own (p + 1) w2 v c ∧ p + 1 ≤ w2.heap.size ∧ Below p w w2 := by
  obtain ⟨v', h1, _⟩ := h.row
  have hp := lt_of_heap h1
  refine ⟨own_past h2 fun b hb hlt => (hu.other b (by omega)).trans (Below.heap_alloc w o b hlt), by rw [hu.size, World.size_alloc]; omega, ((Below.refl _ _).alloc (by omega) _).trans (hu.below (Nat.le_refl _))⟩
theorem wr_end {w0 w w2 w3 w4 : World} {p : Nat} {c x : Bs} {v : Value} {a : Option Addr} {l cp : Nat} (ht : Tab w0) (h : WrAt w0 p c w) (hb2 : Below p w w2) (hb3 : Below (p + 1) w2 w3) (ho : Own (p + 1) w3 (.slice a l cp) (c ++ x))
    (hu : Upd p (.cells #[.slice a l cp, .int .i64 0] 71 (0, 0)) w3 w4) (hv : v = v) : WrAt w0 p (c ++ x) w4 := by
  have hw := h.own
  have hb : Below w0.heap.size w0 w4 := h.li.bel.trans (((hb2.mono hw).trans (hb3.mono (by omega))).trans (hu.below hw))
  exact ⟨(LI.start ht).call hb, h.own, _, hu.here, own_past ho fun b hb' _ => hu.other b (by omega)⟩

theorem rd_wr {w w2 : World} {p : Nat} {v xv : Value} {x : Bs} {o o2 : Obj} (hx : RD w.heap.size w xv x) (h1 : w.heap[p]? = some (.cells #[v, .int .i64 0] 71 (0, 0))) (hv : ∃ a l c, v = .slice a l c) (hu : Upd p o2 (w.alloc o) w2) : RD w2.heap.size w2 xv x := by
  obtain ⟨a, l, c, rfl⟩ := hv
  have h2 : RD w.heap.size (w.alloc o) xv x := hx.alloc (Nat.le_refl _) o
  refine RD.mono (RV.same h2 fun b k u hB hc hm => hu.other b ?_) (by rw [hu.size, World.size_alloc]; omega)
  intro e
  subst e
  obtain ⟨y, _, rfl⟩ := List.mem_map.1 hm
  rw [cell_of_row _ _ _ _ _ _ (heap_old h1 o)] at hc
  match k, hc with
  | 0, hc => simp [bv] at hc
  | 1, hc => simp [bv] at hc
  | k + 2, hc => simp at hc
theorem own_form {g : Nat} {w : World} {v : Value} {m : Bs} (h : Own g w v m) : ∃ a c, v = .slice a m.length c := by
  obtain ⟨a, c, e, _⟩ := h.rd.form
  exact ⟨a, c, e⟩

theorem own_append {g : Nat} {w : World} {v : Value} {c x : Bs} (h : w.ownsRow g 5 1 v (c.length + (x.map bv).length) (c.map bv ++ x.map bv)) : Own g w v (c ++ x) := by
  unfold Own
  rw [List.map_append, List.length_append]
  rw [List.length_map] at h
  exact h
theorem own_grown {g : Nat} {w w' : World} {v : Value} {m : Bs} (ho : Own g w v m) (hgr : w.grownBy w' v.ownBlock) (hg : g ≤ w.heap.size) : Below g w w' := by
  refine grown_below hgr hg fun k hk => ?_
  obtain ⟨_, ⟨rfl, _⟩ | ⟨b, cap, cur, rfl, hb, _⟩⟩ := ho
  · cases hk
  · simp only [Value.ownBlock, Option.some.injEq] at hk; omega

theorem own_len {g : Nat} {w : World} {a : Option Addr} {k : Nat} {c x : Bs} (h : Own g w (.slice a (c ++ x).length k) (c ++ x)) : Own g w (.slice a (c.length + x.length) k) (c ++ x) := by
  rwa [List.length_append] at h

set_option maxHeartbeats 400000 in
theorem put_calls (w0 : World) (p : Nat) (c x : Bs) (xv : Value) (w : World) (ht : Tab w0) (h : WrAt w0 p c w) (hx0 : RD w.heap.size w xv x) (hlen : c.length + x.length ≤ 1000000) :
    Calls Tryd.prog 42 #[.pointer (some ⟨p, 0, none⟩), .int .i64 0, xv] w fun e w' => e = .returned (.pointer (some ⟨p, 0, none⟩)) ∧ WrAt w0 p (c ++ x) w' := by
  obtain ⟨v, h1, h2⟩ := h.row
  have hp := lt_of_heap h1
  have hx := Lib.hid hx0
  have c0 : w.cell? ⟨p, 0, none⟩ = some v := by rw [cell_of_row w p 0 _ _ _ h1]; rfl
  have c1 : w.cell? ⟨p, 1, none⟩ = some (.int .i64 0) := by rw [cell_of_row w p 1 _ _ _ h1]; rfl
  have H1 := Lib.hid h1
  have H2 := Lib.hid h2
  have HH := Lib.hid h
  have hl1 : c.length + (x.map bv).length ≤ maxLen := small_len (by rw [List.length_map]; omega)
  have hl2 : (c.length + (x.map bv).length) * 1 ≤ 140737488355328 := small_bytes (by rw [List.length_map]; omega)
  have HL1 := Lib.hid hl1
  have HL2 := Lib.hid hl2
  clear hx0 h h1 h2 hl1 hl2
  go_enter Tryd.func42, Tryd.ntmps42
  go_upto_region 4 with (first
    | (go_at_call 50; refine (or_calls w.heap.size _ (heap_new w _)).mono ?_; rintro e w1 ⟨rfl, rfl⟩)
    | (refine wpList_store_upd rfl 42 (.tmp 18) (.tmp 16) rfl p 1 (.int .i64 0) rfl rfl _ #[v, .int .i64 0] (heap_old H1.out _) info_errno (Nat.le_refl 2) (by simp [Value.cells, Value.oneCell']) rfl ?_; intro w2 hu2; rw [put_wr1] at hu2; replace hu2 := Lib.hid hu2))
  obtain ⟨ho2, hs2, hb2⟩ := wr_mid HH.out H2.out hu2.out
  have HO2 := Lib.hid ho2
  have HB2 := Lib.hid hb2
  have d0 : w2.cell? ⟨p, 0, none⟩ = some v := by rw [cell_of_row w2 p 0 _ _ _ hu2.out.here]; rfl
  have d1 : w2.cell? ⟨p, 1, none⟩ = some (.int .i64 0) := by rw [cell_of_row w2 p 1 _ _ _ hu2.out.here]; rfl
  have hx2 := Lib.hid (rd_wr hx.out H1.out (by obtain ⟨a, c, e⟩ := own_form H2.out; exact ⟨a, _, c, e⟩) hu2.out)
  have hp2 := Lib.hid (show w2.heap[p]? = some (.cells #[v, .int .i64 0] 71 (0, 0)) from hu2.out.here)
  clear hu2 ho2 hb2 hs2
  have hs2 : p + 1 ≤ w2.heap.size := lt_of_heap hp2.out
  go_wp2_with (first
    | (at_builtin; refine wpList_append_mine rfl (.tmp 28) (.tmp 29) 22 rfl elem_u8 rfl rfl HO2.out hs2 hx2.out (one_bytes x) HL1.out HL2.out ?_; intro v' w3 hgr ho; have HO3 := Lib.hid (own_append ho); have HB3 := Lib.hid (own_grown HO2.out hgr hs2); clear ho hgr; obtain ⟨a3, c3, rfl⟩ := own_form HO3.out; have HO4 := Lib.hid (own_len HO3.out); have HP3 := Lib.hid (heap_below hp2.out HB3.out (Nat.lt_succ_self p)))
    | (refine wpList_store_upd rfl 22 (.tmp 32) (.tmp 30) rfl p 0 (.slice a3 (c.length + x.length) c3) rfl rfl _ #[v, .int .i64 0] HP3.out info_sl (Nat.le_of_ble_eq_true rfl) (one_sl _ _ _) rfl ?_; intro w4 hu4; rw [put_wr0] at hu4; replace hu4 := Lib.hid hu4))
  go_ret
  exact ⟨rfl, wr_end (v := v) ht HH.out HB2.out HB3.out HO4.out hu4.out rfl⟩
end Go.Proofs.YtlgaikknodoilaaDoor.Sh
