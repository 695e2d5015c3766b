/- The contract of many; the chapter's macs (the laws of mac). -/
import Derived.Test.YtlgaikknodoilaaDoorMaMac2
import Derived.Test.YtlgaikknodoilaaDoorShHex
namespace Go.Proofs.YtlgaikknodoilaaDoor.Sh
set_option linter.unusedVariables false
set_option linter.unusedSimpArgs false
open Go Go.RowKit

theorem rep_push (k : Nat) (c : UInt8) : List.replicate k c ++ [c] = List.replicate (k + 1) c := (List.replicate_succ' ..).symm
set_option maxHeartbeats 400000 in
theorem many_calls (c : UInt8) (n : Nat) (hn : n ≤ 100000) (w : World) :
    Calls Tryd.prog 14 #[.int .u8 (c.toNat : Int), .int .i64 (n : Int)] w fun e w' => ∃ v', e = .returned v' ∧ Own w.heap.size w' v' (List.replicate n c) ∧ Below w.heap.size w w' := by
  have hP0 := Lib.hid (show PadAt w.heap.size w (.slice none 0 0) (List.replicate 0 c) w from ⟨ownsRow_free, Below.refl _ _, Nat.le_refl _⟩)
  go_enter Tryd.func14, Tryd.ntmps14
  go_wp2_with fail
  go_loopg [5, 6] n (fun g pv iv wr => ∃ k : Nat, k + g = n ∧ iv = .int .i64 k ∧ PadAt w.heap.size w pv (List.replicate k c) wr)
  case atStart => exact ⟨0, by omega, rfl, hP0.out⟩
  case round =>
    obtain ⟨k, hk, rfl, hP⟩ := hrel
    have HP := Lib.hid hP
    clear hP hP0
    by_cases hlt : k < n
    · go_wp2_with (at_builtin; refine wpList_append_mine rfl (.tmp 12) (.tmp 14) 22 rfl elem_u8 rfl rfl (HP.out.own.alloc _) (HP.out.base_le) (rv_byte wr c) (one_bytes [c]) (small_len (by simp; omega)) (small_bytes (by simp; omega)) ?_; intro v' w' hg ho; replace ho := Lib.hid ho)
      have HN := Lib.hid (HP.out.push hg ho.out)
      clear hg ho HP
      go_wp2_with fail
      go_roundg (gk - 1)
      case measure => omega
      case rel => exact ⟨k + 1, by omega, by go_num, by rw [← rep_push]; exact HN.out⟩
    · obtain rfl : k = n := by omega
      go_wp2_with fail
      go_ret
      refine ⟨_, rfl, ?_, HP.out.below⟩
      have := HP.out.own
      rw [List.length_replicate] at this
      exact ⟨by simp, by simpa using this.2⟩

def k11 : Bs := [11, 11, 11, 11, 11, 11, 11, 11, 11, 11, 11, 11, 11, 11, 11, 11, 11, 11, 11, 11]
def hiThere : Bs := [72, 105, 32, 84, 104, 101, 114, 101]
def jefe : Bs := [74, 101, 102, 101]
def whatDo : Bs := [119, 104, 97, 116, 32, 100, 111, 32, 121, 97, 32, 119, 97, 110, 116, 32, 102, 111, 114, 32, 110, 111, 116, 104, 105, 110, 103, 63]
def mdig1 : Bs := [98, 48, 51, 52, 52, 99, 54, 49, 100, 56, 100, 98, 51, 56, 53, 51, 53, 99, 97, 56, 97, 102, 99, 101, 97, 102, 48, 98, 102, 49, 50, 98, 56, 56, 49, 100, 99, 50, 48, 48, 99, 57, 56, 51, 51, 100, 97, 55, 50, 54, 101, 57, 51, 55, 54, 99, 50, 101, 51, 50, 99, 102, 102, 55]
def mdig2 : Bs := [53, 98, 100, 99, 99, 49, 52, 54, 98, 102, 54, 48, 55, 53, 52, 101, 54, 97, 48, 52, 50, 52, 50, 54, 48, 56, 57, 53, 55, 53, 99, 55, 53, 97, 48, 48, 51, 102, 48, 56, 57, 100, 50, 55, 51, 57, 56, 51, 57, 100, 101, 99, 53, 56, 98, 57, 54, 52, 101, 99, 51, 56, 52, 51]
theorem k11_eq : List.replicate 20 (11 : UInt8) = k11 := rfl
set_option maxRecDepth 1000000 in
theorem mdig1_eq : hx (hmac k11 hiThere) 32 = ⟨mdig1.toArray⟩ := by decide +kernel
set_option maxRecDepth 1000000 in
theorem mdig2_eq : hx (hmac jefe whatDo) 32 = ⟨mdig2.toArray⟩ := by decide +kernel
theorem str_name (a : ByteArray) (l : Bs) (h : a = ⟨l.toArray⟩) : ∃ s, a = s ∧ (s.toList == l) = true := ⟨a, rfl, by rw [h, ByteArray.toList_eq]; exact beq_self_eq_true _⟩

/-- A digest that a walk keeps in a block of its own. -/
structure KD (w0 : World) (p : Nat) (d : Bs) (w : World) : Prop where
  li : LI w0 w
  row : w.heap[p]? = some (.cells (A32 d) 24 (0, 0))
theorem KD.call {w0 w w' : World} {p : Nat} {d : Bs} (h : KD w0 p d w) (hb : Below w.heap.size w w') : KD w0 p d w' := ⟨h.li.call hb, heap_below h.row hb (lt_of_heap h.row)⟩
theorem KD.alloc {w0 w : World} {p : Nat} {d : Bs} (h : KD w0 p d w) (o : Obj) : KD w0 p d (w.alloc o) := h.call ((Below.refl _ _).alloc (Nat.le_refl _) o)
theorem kd_start {w0 w w2 : World} {d : Bs} (h : LI w0 w) (hu : Upd w.heap.size (.cells (A32 d) 24 (0, 0)) (w.alloc (.cells z32 24)) w2) : KD w0 w.heap.size d w2 :=
  ⟨h.call (((Below.refl _ _).alloc (Nat.le_refl _) _).trans (hu.below (Nat.le_refl _))), hu.here⟩
theorem KD.two {w0 w w2 : World} {p : Nat} {d d2 : Bs} (h : KD w0 p d w) (hu : Upd w.heap.size (.cells (A32 d2) 24 (0, 0)) (w.alloc (.cells z32 24)) w2) : KD w0 p d w2 :=
  h.call (((Below.refl _ _).alloc (Nat.le_refl _) _).trans (hu.below (Nat.le_refl _)))
theorem mac_L (w0 : World) (kv bvv : Value) (key m : Bs) (w : World) (h : LI w0 w) (hk : RD w.heap.size w kv key) (hm : RD w.heap.size w bvv m) (hlk : key.length ≤ 549755813888) (hlm : m.length ≤ 500000000000) :
    Calls Tryd.prog 10 #[kv, bvv] w fun e w' => e = .returned (.agg (A32 (hmac key m))) ∧ LI w0 w' ∧ Below w.heap.size w w' :=
  (mac_calls kv bvv key m w h.tab hk hm hlk hlm).mono fun _ _ ⟨h1, h2⟩ => ⟨h1, h.call h2, h2⟩
/-- A row loaded, under a guard that holds. -/
theorem wpList_load_row_g {ops : Array Oper} {rest : List Oper} {o : Oper} {a : Act} {w : World} {Q : Exit → Act → World → Prop} (hw : Region.wanted o (yielded ops a.tmps) = true) (ty : TypeId) (x : Operand) (ho : o.op = .load ty x)
    (g : Nat) (hx : a.eval x = .pointer (some ⟨g, 0, none⟩)) (t : TypeId) (cs : Array Value) (fr : Nat × Nat) (d : TypeDesc) (hg : w.heap[g]? = some (.cells cs t fr))
    (hu : Tryd.prog.underlying ty = some d) (hd : d.isRow = true) (hi : (Tryd.prog.info? ty).map (·.size) = some cs.size)
    (h : wpList Tryd.prog ops Q rest (a.put o.dst (.agg cs)) w) : wpList Tryd.prog ops Q (o :: rest) a w := by
  refine wpList_step fun K hK => ?_
  rw [if_pos hw]
  exact wp_load_row ty x ho g hx t cs fr d hg hu (by cases d <;> first | rfl | exact hd) hi (hK _ _ h)
theorem le_A32h (k m : Bs) : 0 + (Value.agg (A32 (hmac k m))).cells.size ≤ z32.size := le_A32 _
theorem info_A32h (k m : Bs) : (Tryd.prog.info? 24).map (·.size) = some (Value.agg (A32 (hmac k m))).cells.size := info_A32 _
theorem put_A32h (k m : Bs) : put z32 0 (Value.agg (A32 (hmac k m))).cells = A32 (hmac k m) := put_A32 _

theorem rd_past {w : World} {v : Value} {m : Bs} (h : RD w.heap.size w v m) (o : Obj) : RD (w.alloc o).heap.size (w.alloc o) v m := (h.alloc (Nat.le_refl _) o).mono (by simp)
theorem rd_const (w : World) (l : Bs) (n : Nat) (hn : l.length = n ∧ n ≤ maxLen) (fr : Nat × Nat) : RD (w.alloc (.cells (l.map bv).toArray 5 fr)).heap.size (w.alloc (.cells (l.map bv).toArray 5 fr)) (.slice (some ⟨w.heap.size, 0, none⟩) n n) l := by
  obtain ⟨rfl, hm⟩ := hn
  exact (rd_marked w l hm fr).mono (by simp)
theorem rd_const' (w : World) (p : Nat) (hp : p = w.heap.size) (l : Bs) (n : Nat) (hn : l.length = n ∧ n ≤ maxLen) (fr : Nat × Nat) : RD (w.alloc (.cells (l.map bv).toArray 5 fr)).heap.size (w.alloc (.cells (l.map bv).toArray 5 fr)) (.slice (some ⟨p, 0, none⟩) n n) l := by
  subst hp; exact rd_const w l n hn fr

theorem rd_hi (w : World) : RD (w.alloc (.cells #[.int .u8 72, .int .u8 105, .int .u8 32, .int .u8 84, .int .u8 104, .int .u8 101, .int .u8 114, .int .u8 101] 5 (8, 9))).heap.size (w.alloc (.cells #[.int .u8 72, .int .u8 105, .int .u8 32, .int .u8 84, .int .u8 104, .int .u8 101, .int .u8 114, .int .u8 101] 5 (8, 9))) (.slice (some ⟨w.heap.size, 0, none⟩) 8 8) hiThere := rd_const w hiThere 8 (by decide) (8, 9)
theorem rd_jefe (w : World) (o : Obj) : RD ((w.alloc (.cells #[.int .u8 74, .int .u8 101, .int .u8 102, .int .u8 101] 5 (4, 5))).alloc o).heap.size ((w.alloc (.cells #[.int .u8 74, .int .u8 101, .int .u8 102, .int .u8 101] 5 (4, 5))).alloc o) (.slice (some ⟨w.heap.size, 0, none⟩) 4 4) jefe := rd_past (rd_const w jefe 4 (by decide) (4, 5)) o
theorem rd_what (w : World) (o : Obj) : RD ((w.alloc o).alloc (.cells #[.int .u8 119, .int .u8 104, .int .u8 97, .int .u8 116, .int .u8 32, .int .u8 100, .int .u8 111, .int .u8 32, .int .u8 121, .int .u8 97, .int .u8 32, .int .u8 119, .int .u8 97, .int .u8 110, .int .u8 116, .int .u8 32, .int .u8 102, .int .u8 111, .int .u8 114, .int .u8 32, .int .u8 110, .int .u8 111, .int .u8 116, .int .u8 104, .int .u8 105, .int .u8 110, .int .u8 103, .int .u8 63] 5 (28, 29))).heap.size ((w.alloc o).alloc (.cells #[.int .u8 119, .int .u8 104, .int .u8 97, .int .u8 116, .int .u8 32, .int .u8 100, .int .u8 111, .int .u8 32, .int .u8 121, .int .u8 97, .int .u8 32, .int .u8 119, .int .u8 97, .int .u8 110, .int .u8 116, .int .u8 32, .int .u8 102, .int .u8 111, .int .u8 114, .int .u8 32, .int .u8 110, .int .u8 111, .int .u8 116, .int .u8 104, .int .u8 105, .int .u8 110, .int .u8 103, .int .u8 63] 5 (28, 29))) (.slice (some ⟨w.heap.size + 1, 0, none⟩) 28 28) whatDo := rd_const' (w.alloc o) (w.heap.size + 1) (by simp) whatDo 28 (by decide) (28, 29)

end Go.Proofs.YtlgaikknodoilaaDoor.Sh
