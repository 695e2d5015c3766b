/- The contract of (*sha.Hash).Write. -/
import Derived.Test.YtlgaikknodoilaaDoorShTake
import Derived.Test.YtlgaikknodoilaaDoorShAny
namespace Go.Proofs.YtlgaikknodoilaaDoor.Sh
set_option linter.unusedVariables false
set_option linter.unusedSimpArgs false
open Go Go.RowKit

theorem absorb_state (m x : Bs) : absorb (m ++ x) (m.length / 64) = state m := absorb_append m x _ (by omega)

/-- Behind i rounds of Write's loop. -/
structure WAt (w : World) (q : Nat) (m x : Bs) (i : Nat) (av : Value) (wr : World) : Prop where
  vq : wr.heap[q]? = some (.cells (A8 (absorb (m ++ x) (m.length / 64 + i))) 51 (0, 0))
  rd : RD wr.heap.size wr av ((left m ++ x).drop (64 * i))
  below : Below w.heap.size w wr
  q0 : w.heap.size ≤ q
  le : 64 * i ≤ (left m ++ x).length

theorem wat_start {w w2 w4 : World} {p q : Nat} {m x : Bs} {la : Option Addr} {lc nq : Nat} {sv v' : Value} (hlt : p < w.heap.size) (hl : RD w.heap.size w (.slice la (left m).length lc) (left m)) (hx : RD w.heap.size w sv x)
    (bel : Below w.heap.size w w2) (hq : w2.heap[q]? = some (.cells (A8 (state m)) 51 (0, 0))) (hq0 : w.heap.size ≤ q) (hs2 : w2.heap.size = q + 1)
    (hg : (w2.drewN nq).grownBy w4 none)
    (hd : (x.map bv = [] ∧ v' = .slice la (left m).length (left m).length ∧ w4 = w2.drewN nq) ∨ w4.ownsRow (w2.drewN nq).heap.size 5 1 v' (((left m).map bv).length + (x.map bv).length) ((left m).map bv ++ x.map bv)) : WAt w q m x 0 v' w4 := by
  have hb4 := grown_none hg
  have hb : Below w.heap.size w w4 := bel.trans ((below_drewN hb4).mono (by show w.heap.size ≤ w2.heap.size; omega))
  refine ⟨?_, ?_, hb, hq0, by omega⟩
  · rw [Nat.add_zero, absorb_state]
    exact (hb4.block q (by show q < w2.heap.size; omega)).trans hq
  · rw [Nat.mul_zero, List.drop_zero]
    rcases hd with ⟨h1, rfl, h3⟩ | ho
    · have : x = [] := by simpa using h1
      subst this
      rw [List.append_nil]
      exact RD.mono (RD.below (RV.full hl) hb) (by rw [h3]; show w.heap.size ≤ w2.heap.size; omega)
    · have := RV.of_owns ho
      rw [← List.map_append] at this
      exact this

theorem ghost_less {i g n : Nat} (h : i + g = n / 64) (h1 : 64 * i ≤ n) (h2 : 64 ≤ n - 64 * i) : g - 1 < g := by omega
theorem ghost_eq {i g n : Nat} (h : i + g = n / 64) (h1 : 64 * i ≤ n) (h2 : 64 ≤ n - 64 * i) : i + 1 + (g - 1) = n / 64 := by omega
/-- A hash's ten cells. -/
def HC (v : V8) (lv : Value) (n : Int) : Array Value := ((v.list.map wv) ++ [lv, .int .i64 n]).toArray
theorem size_HC (v : V8) (lv : Value) (n : Int) : (HC v lv n).size = 10 := rfl
theorem le_HC_v (v V : V8) (lv : Value) (n : Int) : 0 + (Value.agg (A8 V)).cells.size ≤ (HC v lv n).size := by show 8 ≤ 10; decide
theorem le_HC_l (v : V8) (lv : Value) (n : Int) (a : Option Addr) (l c : Nat) : 8 + (Value.slice a l c).cells.size ≤ (HC v lv n).size := by show 9 ≤ 10; decide
theorem put_HC_v (v V : V8) (lv : Value) (n : Int) : put (HC v lv n) 0 (Value.agg (A8 V)).cells = HC V lv n := rfl
theorem put_HC_l (v : V8) (lv : Value) (n : Int) (a : Option Addr) (l c : Nat) : put (HC v lv n) 8 (Value.slice a l c).cells = HC v (.slice a l c) n := rfl
theorem put_HC_n (v : V8) (lv : Value) (n n' : Int) : put (HC v lv n) 9 (Value.int .i64 n').cells = HC v lv n' := rfl
theorem info_sl : (Tryd.prog.info? 22).map (·.size) = some 1 := by kernel_rfl
theorem info_int : (Tryd.prog.info? 3).map (·.size) = some 1 := by kernel_rfl
theorem one_sl (a : Option Addr) (l c : Nat) : (Value.slice a l c).cells.all (·.oneCell') = true := by simp [Value.cells, Value.oneCell']
theorem one_int (n : Int) : (Value.int .i64 n).cells.all (·.oneCell') = true := by simp [Value.cells, Value.oneCell']
/-- What Write's last statement reads. -/
def WF (p q : Nat) (v V : V8) (lv : Value) (n : Int) (w : World) : Prop :=
  w.heap[q]? = some (.cells (A8 V) 51 (0, 0)) ∧ w.heap[p]? = some (.cells (HC v lv n) 53 (0, 0))
theorem no_byte_A8 (V : V8) (o : Nat) (y : UInt8) : (A8 V)[o]? ≠ some (bv y) := by
  match o with
  | 0 | 1 | 2 | 3 | 4 | 5 | 6 | 7 => simp [A8, V8.list, wv, bv]
  | o + 8 => simp [A8, V8.list]
theorem wat_step {w wr w5 w6 : World} {q i : Nat} {m x L : Bs} {V : V8} {av u64 : Value} (h : WAt w q m x i av wr) (hV : absorb (m ++ x) (m.length / 64 + i) = V) (hL : (left m ++ x).drop (64 * i) = L)
    (hrd : RD wr.heap.size wr av L) (h64 : ∀ B w xs, RV B w av xs → RV B w u64 (xs.drop 64)) (hb : Below wr.drew.heap.size wr.drew w5)
    (hu : Upd q (.cells (put (A8 V) 0 (Value.agg (A8 (comp V (L.take 64)))).cells) 51 (0, 0)) w5 w6) (hl : 64 ≤ L.length) (ht : Tab w) : WAt w q m x (i + 1) u64 w6 := by
  subst hV hL
  have hlen : ((left m ++ x).drop (64 * i)).length = (left m ++ x).length - 64 * i := by simp
  have e1 : m = m.take (64 * (m.length / 64)) ++ left m := (List.take_append_drop _ _).symm
  have e2 : absorb (m ++ x) (m.length / 64 + (i + 1)) = comp (absorb (m ++ x) (m.length / 64 + i)) (((left m ++ x).drop (64 * i)).take 64) := by
    rw [show m.length / 64 + (i + 1) = (m.length / 64 + i) + 1 from rfl, absorb]
    congr 2
    have : left m ++ x = (m ++ x).drop (64 * (m.length / 64)) := by
      unfold left; rw [List.drop_append_of_le_length (by omega)]
    rw [this, List.drop_drop]
    congr 1
    omega
  refine ⟨by rw [e2]; exact hu.here, ?_, ?_, h.q0, by have := h.le; omega⟩
  · have h1 : RD wr.heap.size wr u64 (((left m ++ x).drop (64 * i)).drop 64) := by
      have := h64 _ _ _ hrd
      rw [← List.map_drop] at this
      exact this
    rw [List.drop_drop] at h1
    rw [show 64 * (i + 1) = 64 * i + 64 from by omega]
    have h2 : RD wr.heap.size w5 u64 ((left m ++ x).drop (64 * i + 64)) := (RD.drew h1).below hb
    refine RD.mono (RV.same h2 fun b o u hB hc hm => hu.other b ?_) (by rw [hu.size]; exact hb.size)
    intro e
    subst e
    have hv := (hb.block b hB).trans h.vq
    rw [cell_of_row w5 b o _ _ _ hv] at hc
    obtain ⟨y, _, rfl⟩ := List.mem_map.1 hm
    exact no_byte_A8 _ _ _ hc
  · exact h.below.trans ((below_drew (hb.mono (h.below.size))).trans (hu.below h.q0))

theorem end_left (m x : Bs) (i : Nat) (h1 : 64 * i ≤ (left m ++ x).length) (h2 : (left m ++ x).length - 64 * i < 64) :
    left (m ++ x) = (left m ++ x).drop (64 * i) ∧ state (m ++ x) = absorb (m ++ x) (m.length / 64 + i) := by
  have hl : (left m ++ x).length = m.length % 64 + x.length := by rw [List.length_append, length_left]
  have hd : (m ++ x).length / 64 = m.length / 64 + i := by rw [List.length_append]; omega
  unfold state
  rw [hd]
  refine ⟨?_, rfl⟩
  have : left m ++ x = (m ++ x).drop (64 * (m.length / 64)) := by
    unfold left; rw [List.drop_append_of_le_length (by omega)]
  rw [this, List.drop_drop]
  show (m ++ x).drop (64 * ((m ++ x).length / 64)) = _
  rw [hd]
  congr 1
  omega

/-- The bytes that the hash at p holds back lie in no block below B. -/
def BufFrom (w : World) (p B : Nat) : Prop := ∃ lv, w.cell? ⟨p, 8, none⟩ = some lv ∧ ∀ a l c, lv = .slice (some a) l c → B ≤ a.block

theorem write_end {w wr w5 w6 w7 w8 : World} {p q i : Nat} {m x L : Bs} {v V : V8} {av : Value} {a5 la : Option Addr} {c5 ll lc : Nat} {n0 : Int} (hlt : p < w.heap.size) (h : WAt w q m x i av wr)
    (hV : absorb (m ++ x) (m.length / 64 + i) = V) (hL : (left m ++ x).drop (64 * i) = L) (h64 : ¬ 64 ≤ L.length) (hb5 : Below wr.drew.heap.size wr.drew w5) (ho : Own wr.drew.heap.size w5 (.slice a5 L.length c5) L)
    (hF : WF p q v V (.slice la ll lc) n0 w5) {o6 o7 : Obj} {o8 : Obj} (h6 : Upd p o6 w5 w6) (h7 : Upd p o7 w6 w7) (h8 : Upd p o8 w7 w8)
    (hh : w8.heap[p]? = some (.cells (HC V (.slice a5 L.length c5) ((m.length : Int) + (x.length : Int))) 53 (0, 0))) : HashAt w8 p (m ++ x) ∧ Keeps w.heap.size p w w8 ∧ BufFrom w8 p w.heap.size := by
  subst hV hL
  have hlen : ((left m ++ x).drop (64 * i)).length = (left m ++ x).length - 64 * i := by simp
  obtain ⟨e1, e2⟩ := end_left m x i h.le (by omega)
  have k58 : Keeps w5.heap.size p w5 w8 := ⟨(h8.os.trans h7.os).trans h6.os, (h8.tape.trans h7.tape).trans h6.tape, (h8.output.trans h7.output).trans h6.output, by rw [h8.size, h7.size, h6.size]; exact Nat.le_refl _,
    fun k _ hk => ((h8.other k hk).trans (h7.other k hk)).trans (h6.other k hk)⟩
  have b05 : Below w.heap.size w w5 := h.below.trans (below_drew (hb5.mono h.below.size))
  refine ⟨⟨⟨_, .slice a5 ((left m ++ x).drop (64 * i)).length c5, ?_, ?_, fun _ => e2.symm⟩⟩, (Keeps.of_below b05).trans (k58.mono b05.size), .slice a5 ((left m ++ x).drop (64 * i)).length c5, ?_, ?_⟩
  · rw [List.length_append, Int.natCast_add]; exact hh
  · rw [e1]
    have hbk : HashBlock p w5 := ⟨v, .slice la ll lc, n0, hF.2, la, ll, lc, rfl⟩
    exact (RD.keeps ho.rd k58 hbk).mono k58.size
  · rw [cell_of_row w8 p 8 _ _ _ hh]; rfl
  · intro a l c e
    obtain ⟨_, ⟨e', _⟩ | ⟨g, cap, cur, e', hg, _⟩⟩ := ho
    · rw [e'] at e; cases e
    · rw [e'] at e
      simp only [Value.slice.injEq, Option.some.injEq] at e
      have h2 : w.heap.size ≤ wr.drew.heap.size := h.below.size
      rw [← e.1]
      show w.heap.size ≤ g
      omega

set_option maxRecDepth 100000 in
set_option maxHeartbeats 4000000 in
theorem write_calls_fresh (p : Nat) (m x : Bs) (sv : Value) (w : World) (ht : Tab w) (hh : HashAt w p m) (hx : RD w.heap.size w sv x) (hp : 2 ≤ p) (hlen : m.length + x.length ≤ 1099511627776) :
    Calls Tryd.prog 16 #[.pointer (some ⟨p, 0, none⟩), sv] w fun e w' => e = .returned (.pointer (some ⟨p, 0, none⟩)) ∧ HashAt w' p (m ++ x) ∧ Keeps w.heap.size p w w' ∧ BufFrom w' p w.heap.size := by
  have hlt := hh.lt
  obtain ⟨v, lv, hb, hl, hv⟩ := hh.here
  obtain ⟨la, lc, rfl, hlc, hlm⟩ := hl.form
  have hleft : w.cell? ⟨p, 8, none⟩ = some (.slice la (left m).length lc) := by rw [cell_of_row w p 8 _ _ _ hb]; rfl
  have hmany : w.cell? ⟨p, 9, none⟩ = some (.int .i64 (m.length : Int)) := by rw [cell_of_row w p 9 _ _ _ hb]; rfl
  have HB := Lib.hid hb
  have HL := Lib.hid hl
  have HX := Lib.hid hx
  clear hb hl hx
  go_enter Tryd.func16, Tryd.ntmps16
  go_wp2_with (first
    | (go_at_call 26; refine (words_calls p m _ ht hh).mono ?_; rintro e w1 ⟨rfl, hb1⟩)
    | (refine wpList_store_upd rfl 51 _ _ rfl w1.heap.size 0 (.agg (A8 (state m))) rfl rfl _ _ (heap_new w1 _) (info_a8v _) (Nat.le_refl 8) (one_A8 _) rfl ?_; intro w2 hu2))
  have hp1 : p ≠ w1.heap.size := by have := hb1.size; omega
  have bel2 : Below w.heap.size w w2 := (hb1.alloc hb1.size _).trans (hu2.below (by have := hb1.size; omega))
  have hq : w2.heap[w1.heap.size]? = some (.cells (A8 (state m)) 51 (0, 0)) := hu2.here
  have hleft2 : w2.cell? ⟨p, 8, none⟩ = some (.slice la (left m).length lc) := (bel2.cell (p := ⟨p, 8, none⟩) hlt).trans hleft
  have hq0 : w.heap.size ≤ w1.heap.size := hb1.size
  have hs2 : w2.heap.size = w1.heap.size + 1 := by rw [hu2.size]; simp
  generalize hqq : w1.heap.size = q at hq hq0 hs2 hp1 ⊢
  have HQ := Lib.hid hq
  have HS2 := Lib.hid hs2
  have BEL := Lib.hid bel2
  clear hq hs2 bel2 hu2 hb1 hleft
  clear hqq w1
  refine wp_region_quiet_tail 16 (fun w' => ∃ n, w' = w2.drewN n) ⟨1, rfl⟩ (by kernel_rfl) (by kernel_rfl) ?_
  simp only [List.take_succ_cons, List.take_zero, List.drop_succ_cons, List.drop_zero]
  repeat (go_big_quiet_step (fail))
  refine wpQuiet_nil ?_
  intro _ hw'
  obtain ⟨nq, hw''⟩ := hw'
  subst hw''
  refine wpList_append_full rfl (.tmp 25) (.tmp 26) 22 rfl elem_u8 rfl rfl (ad := la) (n := (left m).length) (B := w.heap.size) (xs := (left m).map bv) (ys := x.map bv) ?_ ?_ ?_ (one_bytes x) ?_ ?_ ?_
  · rfl
  · exact ((RV.below (RV.full HL.out) BEL.out).drewN nq)
  · exact (RV.below HX.out BEL.out).drewN nq
  · have := length_left m; simp only [List.length_map, maxLen]; omega
  · have := length_left m; simp only [List.length_map]; omega
  · intro v' w4 hg hd
    have W0 := Lib.hid (wat_start hlt HL.out HX.out BEL.out HQ.out hq0 HS2.out hg hd)
    clear hg hd
    go_wp2_with fail
    go_loopg [6] ((left m ++ x).length / 64) (fun g av wr => ∃ i : Nat, i + g = (left m ++ x).length / 64 ∧ WAt w q m x i av wr)
    case atStart => exact ⟨0, by omega, W0.out⟩
    case round =>
      obtain ⟨i, hi, hW⟩ := hrel
      have hlen2 : ((left m ++ x).drop (64 * i)).length = (left m ++ x).length - 64 * i := by simp
      have hle := hW.le
      have hLb0 : ((left m ++ x).drop (64 * i)).length ≤ 140737488355328 := by rw [hlen2, List.length_append, length_left]; omega
      generalize hL : (left m ++ x).drop (64 * i) = L at hlen2 hLb0
      have hLb : L.length ≤ 140737488355328 := hLb0
      generalize hV : absorb (m ++ x) (m.length / 64 + i) = V
      have HWW := Lib.hid hW
      have HLEN := Lib.hid hlen2
      have HV := Lib.hid hV
      have HLL := Lib.hid hL
      have HVQ := Lib.hid (show wr.heap[q]? = some (.cells (A8 V) 51 (0, 0)) from by have := HWW.out.vq; rw [HV.out] at this; exact this)
      have hrd := Lib.hid (show RD wr.heap.size wr _ L from by have := HWW.out.rd; rw [HLL.out] at this; exact this)
      have hq1 : q < wr.drew.heap.size := lt_of_heap HWW.out.vq
      have htab := Lib.hid (ht.below HWW.out.below ht.lt)
      clear hW hlen2 hL hV W0
      by_cases h64 : 64 ≤ L.length
      · obtain ⟨b, o, c, rfl, hc, hcm, _⟩ := hrd.out.addr (by intro e; rw [e] at h64; simp at h64)
        obtain ⟨u64, hsl0, hr64⟩ := cut_from (P := Tryd.prog) elem_u8 (a := some ⟨b, o, none⟩) (c := c) .i64 64 h64
        have hsl : ∀ w, (Instr.slice 22 (.slice (some ⟨b, o, none⟩) L.length c) (some (.int .i64 64)) none none).run Tryd.prog w = .ok u64 w := hsl0
        go_wp2_with fail
        refine wp_region_lex Every [0, 2, 5] [] [] (by kernel_rfl) (by kernel_rfl) (fun _ => trivial) ?_
        simp only [List.zipIdx_cons, List.zipIdx_nil, Nat.zero_add, Nat.reduceAdd]
        refine lex_act rfl rfl (fun K hK => ?_)
        refine wp_load_row 51 (.tmp 5) rfl q rfl _ _ _ _ HVQ.out Tryd.underlying51 rfl info_a8 ?_
        refine hK _ _ (ActLeft.keep rfl fun h => h) ?_
        clear hK K
        refine lex_blind 1 (by kernel_rfl) ?_
        simp only [List.take_succ_cons, List.take_zero, List.drop_succ_cons, List.drop_zero, List.map_cons, List.map_nil, Act.put, List.setIfInBounds_toArray, List.set_cons_succ, List.set_cons_zero]
        repeat (go_big_quiet_step (fail))
        refine wpQuiet_nil ?_
        refine lex_act rfl rfl (fun K hK => ?_)
        go_simp
        refine (take_calls V _ L _ htab.out.drew hrd.out.drew h64).mono ?_
        rintro e w5 ⟨rfl, hb5⟩
        refine hK _ _ (ActLeft.keep rfl fun h => h) ?_
        clear hK K
        refine lex_blind 2 (by kernel_rfl) ?_
        simp only [List.take_succ_cons, List.take_zero, List.drop_succ_cons, List.drop_zero, List.map_cons, List.map_nil, Act.put, List.setIfInBounds_toArray, List.set_cons_succ, List.set_cons_zero]
        repeat (go_big_quiet_step (fail))
        refine wpQuiet_nil ?_
        refine lex_act rfl rfl (fun K hK => ?_)
        refine wp_store_upd 51 (.tmp 5) (.tmp 33) rfl q 0 (.agg (A8 (comp V (L.take 64)))) rfl rfl _ (A8 V) (heap_below HVQ.out (below_drew hb5) hq1) (info_a8v _) (Nat.le_refl 8) (one_A8 _) rfl ?_
        intro w6 hu6
        refine hK _ _ (ActLeft.keep rfl fun h => h) ?_
        clear hK K
        refine lex_blind 1 (by kernel_rfl) ?_
        simp only [List.take_succ_cons, List.take_zero, List.drop_succ_cons, List.drop_zero, List.map_cons, List.map_nil]
        repeat (go_big_quiet_step (fail))
        refine wpQuiet_nil (lex_nil ?_)
        have HN := Lib.hid (wat_step HWW.out HV.out HLL.out hrd.out hr64 hb5 hu6 h64 ht)
        clear hu6 hb5 hr64 hsl hsl0
        go_wp2_with fail
        go_roundg (gk - 1)
        case measure => exact ghost_less hi hle (by rw [← HLEN.out]; exact h64)
        case rel => exact ⟨i + 1, ghost_eq hi hle (by rw [← HLEN.out]; exact h64), HN.out⟩
      · obtain ⟨la2, lc2, rfl, hlc2, hlm2⟩ := hrd.out.form
        have hpb := Lib.hid (show wr.heap[p]? = some (.cells (HC v (.slice la (left m).length lc) (m.length : Int)) 53 (0, 0)) from heap_below HB.out HWW.out.below hlt)
        have hlx : x.length ≤ 1099511627776 := by omega
        obtain ⟨xa, xc, rfl, _, _⟩ := HX.out.form
        go_wp2_with fail
        have f0 : ∀ y : In (WF p q v V (.slice la (left m).length lc) (m.length : Int)), y.val.cell? ⟨q, 0, none⟩ = some (.int .u32 (V.a.toNat : Int)) := fun y => by rw [cell_of_row _ q 0 _ _ _ y.prop.1]; rfl
        have f1 : ∀ y : In (WF p q v V (.slice la (left m).length lc) (m.length : Int)), y.val.cell? ⟨q, 1, none⟩ = some (.int .u32 (V.b.toNat : Int)) := fun y => by rw [cell_of_row _ q 1 _ _ _ y.prop.1]; rfl
        have f2 : ∀ y : In (WF p q v V (.slice la (left m).length lc) (m.length : Int)), y.val.cell? ⟨q, 2, none⟩ = some (.int .u32 (V.c.toNat : Int)) := fun y => by rw [cell_of_row _ q 2 _ _ _ y.prop.1]; rfl
        have f3 : ∀ y : In (WF p q v V (.slice la (left m).length lc) (m.length : Int)), y.val.cell? ⟨q, 3, none⟩ = some (.int .u32 (V.d.toNat : Int)) := fun y => by rw [cell_of_row _ q 3 _ _ _ y.prop.1]; rfl
        have f4 : ∀ y : In (WF p q v V (.slice la (left m).length lc) (m.length : Int)), y.val.cell? ⟨q, 4, none⟩ = some (.int .u32 (V.e.toNat : Int)) := fun y => by rw [cell_of_row _ q 4 _ _ _ y.prop.1]; rfl
        have f5 : ∀ y : In (WF p q v V (.slice la (left m).length lc) (m.length : Int)), y.val.cell? ⟨q, 5, none⟩ = some (.int .u32 (V.f.toNat : Int)) := fun y => by rw [cell_of_row _ q 5 _ _ _ y.prop.1]; rfl
        have f6 : ∀ y : In (WF p q v V (.slice la (left m).length lc) (m.length : Int)), y.val.cell? ⟨q, 6, none⟩ = some (.int .u32 (V.g.toNat : Int)) := fun y => by rw [cell_of_row _ q 6 _ _ _ y.prop.1]; rfl
        have f7 : ∀ y : In (WF p q v V (.slice la (left m).length lc) (m.length : Int)), y.val.cell? ⟨q, 7, none⟩ = some (.int .u32 (V.h.toNat : Int)) := fun y => by rw [cell_of_row _ q 7 _ _ _ y.prop.1]; rfl
        have f9 : ∀ y : In (WF p q v V (.slice la (left m).length lc) (m.length : Int)), y.val.cell? ⟨p, 9, none⟩ = some (.int .i64 (m.length : Int)) := fun y => by rw [cell_of_row _ p 9 _ _ _ y.prop.2]; rfl
        have ne : Nonempty (In (WF p q v V (.slice la (left m).length lc) (m.length : Int))) := ⟨⟨wr, HVQ.out, hpb.out⟩⟩
        refine wp_region_lex (WF p q v V (.slice la (left m).length lc) (m.length : Int)) [5, 15, 18, 21] [15, 18, 21] [3, 9] (by kernel_rfl) (by kernel_rfl) (fun _ => ⟨HVQ.out, hpb.out⟩) ?_
        simp only [List.zipIdx_cons, List.zipIdx_nil, Nat.zero_add, Nat.reduceAdd]
        refine lex_blind 3 (by kernel_rfl) ?_
        simp only [List.take_succ_cons, List.take_zero, List.drop_succ_cons, List.drop_zero, List.map_cons, List.map_nil]
        repeat (go_big_quiet_step (fail))
        refine wpQuiet_nil ?_
        refine lex_reads 1 (by kernel_rfl) (by kernel_rfl) ?_
        simp only [List.take_succ_cons, List.take_zero, List.drop_succ_cons, List.drop_zero, List.map_cons, List.map_nil]
        repeat (go_big_quiet_step (fail))
        refine wpQuiet_nil ?_
        refine lex_blind 1 (by kernel_rfl) ?_
        simp only [List.take_succ_cons, List.take_zero, List.drop_succ_cons, List.drop_zero, List.map_cons, List.map_nil]
        repeat (go_big_quiet_step (fail))
        refine wpQuiet_nil ?_
        refine lex_act rfl rfl (fun K hK => ?_)
        go_simp
        refine (clone_calls _ L _ (RD.drew hrd.out) hLb).mono ?_
        rintro e w5 ⟨v5, rfl, ho5, hb5⟩
        have hF5 : WF p q v V (.slice la (left m).length lc) (m.length : Int) w5 := ⟨heap_below HVQ.out (below_drew hb5) hq1, heap_below hpb.out (below_drew hb5) (lt_of_heap hpb.out)⟩
        refine hK _ _ (ActLeft.keep rfl fun _ => hF5) ?_
        clear hK K
        obtain ⟨a5, c5, rfl, _, _⟩ := ho5.rd.form
        have HO5 := Lib.hid ho5
        have HB5 := Lib.hid hb5
        have HF5 := Lib.hid hF5
        clear ho5 hb5 hF5
        refine lex_blind 3 (by kernel_rfl) ?_
        simp only [List.take_succ_cons, List.take_zero, List.drop_succ_cons, List.drop_zero, List.map_cons, List.map_nil, Act.put, List.setIfInBounds_toArray, List.set_cons_succ, List.set_cons_zero]
        repeat (go_big_quiet_step (fail))
        refine wpQuiet_nil ?_
        refine lex_reads 1 (by kernel_rfl) (by kernel_rfl) ?_
        simp only [List.take_succ_cons, List.take_zero, List.drop_succ_cons, List.drop_zero, List.map_cons, List.map_nil]
        repeat (go_big_quiet_step (fail))
        refine wpQuiet_nil ?_
        refine lex_blind 5 (by kernel_rfl) ?_
        simp only [List.take_succ_cons, List.take_zero, List.drop_succ_cons, List.drop_zero, List.map_cons, List.map_nil]
        repeat (go_big_quiet_step (fail))
        refine wpQuiet_nil ?_
        refine lex_act rfl rfl (fun K hK => ?_)
        refine wp_store_upd 51 (.tmp 50) (.tmp 39) rfl p 0 (.agg (A8 V)) rfl rfl _ (HC v (.slice la (left m).length lc) (m.length : Int)) HF5.out.2 (info_a8v _) (le_HC_v _ _ _ _) (one_A8 _) rfl ?_
        intro w6 hu6
        refine hK _ _ (ActLeft.last rfl rfl) ?_
        clear hK K
        refine lex_blind 2 (by kernel_rfl) ?_
        simp only [List.take_succ_cons, List.take_zero, List.drop_succ_cons, List.drop_zero, List.map_cons, List.map_nil]
        repeat (go_big_quiet_step (fail))
        refine wpQuiet_nil ?_
        have h6 := hu6.here
        rw [put_HC_v] at h6
        refine lex_act rfl rfl (fun K hK => ?_)
        refine wp_store_upd 22 (.tmp 52) (.tmp 41) rfl p 8 (.slice a5 L.length c5) rfl rfl _ _ h6 info_sl (le_HC_l _ _ _ _ _ _) (one_sl _ _ _) rfl ?_
        intro w7 hu7
        refine hK _ _ (ActLeft.last rfl rfl) ?_
        clear hK K
        refine lex_blind 2 (by kernel_rfl) ?_
        simp only [List.take_succ_cons, List.take_zero, List.drop_succ_cons, List.drop_zero, List.map_cons, List.map_nil]
        repeat (go_big_quiet_step (fail))
        refine wpQuiet_nil ?_
        have h7 := hu7.here
        rw [put_HC_l] at h7
        refine lex_act rfl rfl (fun K hK => ?_)
        refine wp_store_upd 3 (.tmp 54) (.tmp 48) rfl p 9 (.int .i64 ((m.length : Int) + (x.length : Int))) rfl rfl _ _ h7 info_int (Nat.le_of_eq (size_HC _ _ _).symm) (one_int _) rfl ?_
        intro w8 hu8
        refine hK _ _ (ActLeft.last rfl rfl) ?_
        clear hK K
        refine lex_nil ?_
        have h8 := hu8.here
        rw [put_HC_n] at h8
        have HE := Lib.hid (write_end hlt HWW.out HV.out HLL.out h64 HB5.out HO5.out HF5.out hu6 hu7 hu8 h8)
        clear hu6 hu7 hu8 h6 h7 h8 HO5 HB5 HF5 f0 f1 f2 f3 f4 f5 f6 f7 f9 ne
        go_wp2_with fail
        go_ret
        exact ⟨rfl, HE.out⟩
theorem write_calls (p : Nat) (m x : Bs) (sv : Value) (w : World) (ht : Tab w) (hh : HashAt w p m) (hx : RD w.heap.size w sv x) (hp : 2 ≤ p) (hlen : m.length + x.length ≤ 1099511627776) :
    Calls Tryd.prog 16 #[.pointer (some ⟨p, 0, none⟩), sv] w fun e w' => e = .returned (.pointer (some ⟨p, 0, none⟩)) ∧ HashAt w' p (m ++ x) ∧ Keeps w.heap.size p w w' :=
  (write_calls_fresh p m x sv w ht hh hx hp hlen).mono fun _ _ ⟨h1, h2, h3, _⟩ => ⟨h1, h2, h3⟩
end Go.Proofs.YtlgaikknodoilaaDoor.Sh
