/- The walk of MacSame. -/
import Derived.Test.YtlgaikknodoilaaDoorMaSame
namespace Go.Proofs.YtlgaikknodoilaaDoor.Sh
set_option linter.unusedVariables false
set_option linter.unusedSimpArgs false
open Go Go.RowKit

/-- The first 32 bytes, filled so far. -/
def fl (a : Bs) (i : Nat) : Bs := (List.range 32).map fun j => if j < i ∧ j < a.length then a.getD j 0 else 0
theorem length_fl (a : Bs) (i : Nat) : (fl a i).length = 32 := by simp [fl]
theorem fl_zero (a : Bs) : fl a 0 = List.replicate 32 0 := by
  apply List.ext_getElem (by simp [fl])
  intro j h1 h2
  simp only [fl, List.getElem_map, List.getElem_range, List.getElem_replicate]
  rw [if_neg (by omega)]
theorem fl_step (a : Bs) (i : Nat) (hi : i < 32) (h : i < a.length) : (fl a i).set i (a.getD i 0) = fl a (i + 1) := by
  apply List.ext_getElem (by simp [fl])
  intro j h1 h2
  rw [List.getElem_set]
  simp only [fl, List.getElem_map, List.getElem_range]
  by_cases e : i = j
  · subst e; rw [if_pos rfl, if_pos ⟨by omega, h⟩]
  · rw [if_neg e]
    by_cases e2 : j < i ∧ j < a.length
    · rw [if_pos e2, if_pos ⟨by omega, e2.2⟩]
    · rw [if_neg e2, if_neg (by omega)]
theorem fl_pass (a : Bs) (i : Nat) (h : ¬ i < a.length) : fl a (i + 1) = fl a i := by
  unfold fl
  apply List.map_congr_left
  intro j _
  by_cases e2 : j < i ∧ j < a.length
  · rw [if_pos e2, if_pos ⟨by omega, e2.2⟩]
  · rw [if_neg e2, if_neg (by omega)]
theorem put_A32l (T : Bs) (i : Nat) (x : UInt8) (hi : i < T.length) : put (A32 T) i (bv x).cells = A32 (T.set i x) := by
  unfold A32
  rw [put_one _ _ _ (by simp [bv, Value.cells]) (by simpa using hi), List.map_set]
structure SX (w : World) (a b : Bs) (i j : Nat) (wr : World) : Prop where
  px : wr.heap[w.heap.size]? = some (.cells (A32 (fl a i)) 24 (0, 0))
  py : wr.heap[w.heap.size + 1]? = some (.cells (A32 (fl b j)) 24 (0, 0))
  below : Below w.heap.size w wr
theorem sx_start (w : World) (a b : Bs) : SX w a b 0 0 ((w.alloc (.cells z32 24)).alloc (.cells z32 24)) :=
  ⟨by rw [fl_zero]; exact heap_old (heap_new w _) _, by rw [fl_zero]; exact heap_new2 w _ _, ((Below.refl _ _).alloc (Nat.le_refl _) _).alloc (by simp) _⟩
theorem SX.stepx {w wr w2 : World} {a b : Bs} {i j : Nat} {x : UInt8} (h : SX w a b i j wr) (hx : i < a.length ∧ a.getD i 0 = x) (hi : i < 32) (hu : Upd w.heap.size (.cells (put (A32 (fl a i)) i (bv x).cells) 24 (0, 0)) wr w2) : SX w a b (i + 1) j w2 := by
  rw [put_A32l _ _ _ (by rw [length_fl]; exact hi), ← hx.2, fl_step a i hi hx.1] at hu
  exact ⟨hu.here, heap_upd h.py hu (by omega), h.below.trans (hu.below (Nat.le_refl _))⟩
theorem SX.stepy {w wr w2 : World} {a b : Bs} {i j : Nat} {x : UInt8} (h : SX w a b i j wr) (hx : j < b.length ∧ b.getD j 0 = x) (hi : j < 32) (hu : Upd (w.heap.size + 1) (.cells (put (A32 (fl b j)) j (bv x).cells) 24 (0, 0)) wr w2) : SX w a b i (j + 1) w2 := by
  rw [put_A32l _ _ _ (by rw [length_fl]; exact hi), ← hx.2, fl_step b j hi hx.1] at hu
  exact ⟨heap_upd h.px hu (by omega), hu.here, h.below.trans (hu.below (by omega))⟩
theorem SX.passx {w wr : World} {a b : Bs} {i j : Nat} (h : SX w a b i j wr) (ha : ¬ i < a.length) : SX w a b (i + 1) j wr := ⟨by rw [fl_pass a i ha]; exact h.px, h.py, h.below⟩
theorem SX.passy {w wr : World} {a b : Bs} {i j : Nat} (h : SX w a b i j wr) (hb : ¬ j < b.length) : SX w a b i (j + 1) wr := ⟨h.px, by rw [fl_pass b j hb]; exact h.py, h.below⟩
/-- Two arrays of the walk's own. -/
structure S2 (w : World) (X Y : Bs) (wr : World) : Prop where
  both : wr.heap[w.heap.size]? = some (.cells (A32 X) 24 (0, 0)) ∧ wr.heap[w.heap.size + 1]? = some (.cells (A32 Y) 24 (0, 0))
  below : Below w.heap.size w wr
theorem SX.two {w wr : World} {a b : Bs} {i j : Nat} (h : SX w a b i j wr) : S2 w (fl a i) (fl b j) wr := ⟨⟨h.px, h.py⟩, h.below⟩
theorem S2.call {w wr w2 : World} {X Y : Bs} (h : S2 w X Y wr) (hb : Below wr.heap.size wr w2) : S2 w X Y w2 := ⟨⟨heap_below h.both.1 hb (lt_of_heap h.both.1), heap_below h.both.2 hb (lt_of_heap h.both.2)⟩, h.below.trans (hb.mono h.below.size)⟩
theorem S2.tab {w wr : World} {X Y : Bs} (h : S2 w X Y wr) (ht : Tab w) : Tab wr := ht.below h.below ht.lt
/-- And the third, at q. -/
structure S3 (w : World) (X Z : Bs) (q : Nat) (wr : World) : Prop where
  x : wr.heap[w.heap.size]? = some (.cells (A32 X) 24 (0, 0))
  z : wr.heap[q]? = some (.cells (A32 Z) 24 (0, 0))
  lt : w.heap.size < q
  below : Below w.heap.size w wr
theorem s3_start {w w1 w2 : World} {X Y : Bs} (h : S2 w X Y w1) (hu : Upd w1.heap.size (.cells (A32 X) 24 (0, 0)) (w1.alloc (.cells z32 24)) w2) : S3 w X X w1.heap.size w2 := by
  have l := lt_of_heap h.both.1
  exact ⟨heap_upd (heap_old h.both.1 _) hu (by omega), hu.here, l, h.below.trans (((Below.refl _ _).alloc (by omega) _).trans (hu.below (by omega)))⟩
theorem S3.step {w w1 w2 : World} {X Z Z2 : Bs} {q : Nat} (h : S3 w X Z q w1) (hu : Upd q (.cells (A32 Z2) 24 (0, 0)) w1 w2) : S3 w X Z2 q w2 := by
  have l := h.lt
  exact ⟨heap_upd h.x hu (by omega), hu.here, h.lt, h.below.trans (hu.below (by omega))⟩
theorem S3.call {w w1 w2 : World} {X Z : Bs} {q : Nat} (h : S3 w X Z q w1) (hb : Below w1.heap.size w1 w2) : S3 w X Z q w2 := ⟨heap_below h.x hb (lt_of_heap h.x), heap_below h.z hb (lt_of_heap h.z), h.lt, h.below.trans (hb.mono h.below.size)⟩
theorem S3.drewN {w w1 : World} {X Z : Bs} {q : Nat} (h : S3 w X Z q w1) (n : Nat) : S3 w X Z q (w1.drewN n) := ⟨h.x, h.z, h.lt, h.below.trans (c := w1.drewN n) ⟨rfl, rfl, rfl, Nat.le_refl _, fun _ _ => rfl⟩⟩
theorem S3.cell {w w1 : World} {X Z : Bs} {q : Nat} (h : S3 w X Z q w1) (k : Nat) (hk : k < Z.length) : w1.cell? ⟨q, k, none⟩ = some (.int .u8 ((Z.getD k 0).toNat : Int)) := by
  rw [cell_of_row w1 q k _ _ _ h.z, A32_get' Z k hk]; rfl
theorem bit_ne (r : Nat) (h : r < 8) : UInt8.ofNat (2 ^ r) ≠ 0 := by
  match r, h with
  | 0, _ | 1, _ | 2, _ | 3, _ | 4, _ | 5, _ | 6, _ | 7, _ => decide
theorem bit_val (x : UInt8) (r : Nat) : bits .xor .u8 (x.toNat : Int) (2 ^ r % 256) = ((x ^^^ UInt8.ofNat (2 ^ r)).toNat : Int) := by
  rw [show ((2 : Int) ^ r % 256) = ((UInt8.ofNat (2 ^ r)).toNat : Int) by rw [show (UInt8.ofNat (2 ^ r)).toNat = 2 ^ r % 256 from UInt8.toNat_ofNat' ..]; simp]
  exact u8_xor x _
theorem set_ne (X : Bs) (k : Nat) (t : UInt8) (hk : k < X.length) (ht : t ≠ 0) : (X == X.set k (X.getD k 0 ^^^ t)) = false ∧ (X.set k (X.getD k 0 ^^^ t) == X) = false := by
  have key : X ≠ X.set k (X.getD k 0 ^^^ t) := by
    intro e
    have h1 : X[k]? = (X.set k (X.getD k 0 ^^^ t))[k]? := by rw [← e]
    rw [List.getElem?_set_self hk, List.getElem?_eq_getElem hk, List.getD_eq_getElem?_getD, List.getElem?_eq_getElem hk] at h1
    simp only [Option.getD_some, Option.some.injEq] at h1
    have h2 : X[k] ^^^ (X[k] ^^^ t) = 0 := (xor_zero8 _ _).2 h1
    apply ht
    rw [← h2]
    apply UInt8.toBitVec_inj.1
    rw [UInt8.toBitVec_xor, UInt8.toBitVec_xor, ← BitVec.xor_assoc, BitVec.xor_self, BitVec.zero_xor]
  exact ⟨by simpa using key, by simpa using fun e => key e.symm⟩

set_option maxRecDepth 4000 in
set_option maxHeartbeats 1000000 in
theorem macsame_calls (w : World) (ht : Tab w) (v : Value) (a : Bs) (hv : RD w.heap.size w v a) (xv : Value) (b : Bs) (hxv : RD w.heap.size w xv b) (z : Int) (fz : Fits z) :
    Calls Tryd.prog 5 #[v, xv, .int .i64 z] w fun e w' => e = .returned (.bool true) ∧ Below w.heap.size w w' := by
  have HT := Lib.hid ht
  have HV := Lib.hid hv
  have HXV := Lib.hid hxv
  obtain ⟨ua, uc, rfl, _, _⟩ := hv.form
  obtain ⟨va, vc, rfl, _, _⟩ := hxv.form
  have hS0 := Lib.hid (sx_start w a b)
  clear hv hxv
  go_enter Tryd.func5, Tryd.ntmps5
  go_wp2_with fail
  go_loopg [9] 32 (fun gk iv wr => ∃ i : Nat, i + gk = 32 ∧ iv = .int .i64 i ∧ SX w a b i i wr)
  case atStart => exact ⟨0, rfl, rfl, hS0.out⟩
  case round =>
    obtain ⟨i, hi, rfl, hS⟩ := hrel
    have HS0 := Lib.hid hS
    clear hS0
    by_cases hi32 : i < 32
    · have hlx : i + 1 ≤ (A32 (fl a i)).size := by rw [size_A32, length_fl]; omega
      have hly : i + 1 ≤ (A32 (fl b i)).size := by rw [size_A32, length_fl]; omega
      have HLX := Lib.hid hlx
      have HLY := Lib.hid hly
      have ca : i < a.length → ∃ p o, ua = some ⟨p, o, none⟩ ∧ wr.cell? ⟨p, o + i, none⟩ = some (bv (a.getD i 0)) := fun h => by
        obtain ⟨p, o, c, e, _, _, _⟩ := HV.out.addr (by intro e; subst e; simp at h)
        simp only [Value.slice.injEq] at e
        obtain ⟨rfl, _, rfl⟩ := e
        exact ⟨p, o, rfl, (HV.out.below hS.below).cell i h⟩
      have cb : i < b.length → ∃ p o, va = some ⟨p, o, none⟩ ∧ p < w.heap.size ∧ wr.cell? ⟨p, o + i, none⟩ = some (bv (b.getD i 0)) := fun h => by
        obtain ⟨p, o, c, e, _, _, hp⟩ := HXV.out.addr (by intro e; subst e; simp at h)
        simp only [Value.slice.injEq] at e
        obtain ⟨rfl, _, rfl⟩ := e
        exact ⟨p, o, rfl, hp, (HXV.out.below hS.below).cell i h⟩
      clear hS hlx hly
      by_cases ha : i < a.length
      · obtain ⟨p1, o1, rfl, c1⟩ := ca ha
        have HXA0 := Lib.hid (show i < a.length ∧ a.getD i 0 = a.getD i 0 from ⟨ha, rfl⟩)
        generalize hxa : a.getD i 0 = xa at c1
        have HXA := Lib.hid (show i < a.length ∧ a.getD i 0 = xa from ⟨ha, hxa⟩)
        unfold bv at c1
        clear ca hxa HXA0
        by_cases hb : i < b.length
        · obtain ⟨p2, o2, rfl, hp2, c2⟩ := cb hb
          generalize hxb : b.getD i 0 = xb at c2
          have HXB := Lib.hid (show i < b.length ∧ b.getD i 0 = xb from ⟨hb, hxb⟩)
          unfold bv at c2
          clear cb hxb
          go_wp2_with (first
            | (refine wpList_store_upd rfl 5 (.tmp 25) (.tmp 24) rfl w.heap.size i (bv xa) rfl rfl _ _ HS0.out.px info_u8 HLX.out (one_bv _) rfl ?_; intro w2 hu2; have HS1 := Lib.hid (HS0.out.stepx HXA.out hi32 hu2); have c2n := (hu2.cell (a := ⟨p2, o2 + i, none⟩) (Nat.ne_of_lt hp2)).trans c2; clear hu2)
            | (refine wpList_store_upd rfl 5 (.tmp 35) (.tmp 34) rfl (w.heap.size + 1) i (bv xb) rfl rfl _ _ HS1.out.py info_u8 HLY.out (one_bv _) rfl ?_; intro w3 hu3; have HS2 := Lib.hid (HS1.out.stepy HXB.out hi32 hu3); clear hu3)
            | fail)
          go_roundg (gk - 1)
          case measure => omega
          case rel => exact ⟨i + 1, by omega, by go_num, HS2.out⟩
        · clear cb
          go_wp2_with (first
            | (refine wpList_store_upd rfl 5 (.tmp 25) (.tmp 24) rfl w.heap.size i (bv xa) rfl rfl _ _ HS0.out.px info_u8 HLX.out (one_bv _) rfl ?_; intro w2 hu2; have HS1 := Lib.hid (HS0.out.stepx HXA.out hi32 hu2); clear hu2)
            | fail)
          go_roundg (gk - 1)
          case measure => omega
          case rel => exact ⟨i + 1, by omega, by go_num, HS1.out.passy hb⟩
      · clear ca
        by_cases hb : i < b.length
        · obtain ⟨p2, o2, rfl, hp2, c2⟩ := cb hb
          generalize hxb : b.getD i 0 = xb at c2
          have HXB := Lib.hid (show i < b.length ∧ b.getD i 0 = xb from ⟨hb, hxb⟩)
          unfold bv at c2
          clear cb hxb
          go_wp2_with (first
            | (refine wpList_store_upd rfl 5 (.tmp 35) (.tmp 34) rfl (w.heap.size + 1) i (bv xb) rfl rfl _ _ HS0.out.py info_u8 HLY.out (one_bv _) rfl ?_; intro w3 hu3; have HS2 := Lib.hid (HS0.out.stepy HXB.out hi32 hu3); clear hu3)
            | fail)
          go_roundg (gk - 1)
          case measure => omega
          case rel => exact ⟨i + 1, by omega, by go_num, HS2.out.passx ha⟩
        · clear cb
          go_wp2_with (first
            | fail)
          go_roundg (gk - 1)
          case measure => omega
          case rel => exact ⟨i + 1, by omega, by go_num, (HS0.out.passx ha).passy hb⟩
    · obtain rfl : i = 32 := by omega
      have HS := Lib.hid hS.two
      have HX := Lib.hid (length_fl a 32)
      have HY := Lib.hid (length_fl b 32)
      clear hS HS0 hi32 hi
      generalize fl a 32 = X at *
      generalize fl b 32 = Y at *
      have hxx : (X == X) = true := by simp
      have HXX := Lib.hid hxx
      have hexy : ∀ w, (binOp .eql 24 (.agg (A32 X)) (.agg (A32 Y))).run Tryd.prog w = .ok (.bool (X == Y)) w := fun w => run_eql_A32 X Y HX.out HY.out w
      obtain ⟨e, he⟩ : ∃ e, (X == Y) = e := ⟨_, rfl⟩
      have HE := Lib.hid he
      rw [he] at hexy
      clear he
      cases e
      all_goals (
        go_upto_region 9 with fail
        refine wp_region_lex (fun w' => w'.heap[w.heap.size]? = some (.cells (A32 X) 24 (0, 0)) ∧ w'.heap[w.heap.size + 1]? = some (.cells (A32 Y) 24 (0, 0))) [2, 10] [] [0, 1, 3, 4, 8, 9] (by kernel_rfl) (by kernel_rfl) (fun _ => HS.out.both) ?_
        simp only [List.zipIdx_cons, List.zipIdx_nil, Nat.zero_add, Nat.reduceAdd]
        refine lex_load_row rfl rfl rfl 24 (.tmp 7) rfl (w.heap.size) rfl _ (A32 X) (0, 0) _ (fun _ h => h.1) Tryd.underlying24 rfl (info_A32l X HX.out) ?_
        refine lex_load_row rfl rfl rfl 24 (.tmp 8) rfl (w.heap.size + 1) rfl _ (A32 Y) (0, 0) _ (fun _ h => h.2) Tryd.underlying24 rfl (info_A32l Y HY.out) ?_
        refine lex_act rfl rfl (fun K hK => ?_)
        go_simp
        refine (same_calls X Y HX.out HY.out _).mono ?_
        rintro e w2 ⟨rfl, hb2⟩
        rw [HE.out]
        have HS2 := Lib.hid (HS.out.call (below_drew hb2))
        clear hb2
        refine hK _ _ (ActLeft.keep rfl fun _ => HS2.out.both) ?_
        clear hK K
        refine lex_load_row rfl rfl rfl 24 (.tmp 7) rfl (w.heap.size) rfl _ (A32 X) (0, 0) _ (fun _ h => h.1) Tryd.underlying24 rfl (info_A32l X HX.out) ?_
        refine lex_load_row rfl rfl rfl 24 (.tmp 8) rfl (w.heap.size + 1) rfl _ (A32 Y) (0, 0) _ (fun _ h => h.2) Tryd.underlying24 rfl (info_A32l Y HY.out) ?_
        refine lex_blind 3 (by kernel_rfl) ?_
        simp only [List.take_succ_cons, List.take_zero, List.drop_succ_cons, List.drop_zero, List.map_cons, List.map_nil, Act.put, List.setIfInBounds_toArray, List.set_cons_succ, List.set_cons_zero]
        repeat (go_big_quiet_step (fail))
        refine wpQuiet_nil ?_
        refine lex_load_row rfl rfl rfl 24 (.tmp 7) rfl (w.heap.size) rfl _ (A32 X) (0, 0) _ (fun _ h => h.1) Tryd.underlying24 rfl (info_A32l X HX.out) ?_
        refine lex_load_row rfl rfl rfl 24 (.tmp 7) rfl (w.heap.size) rfl _ (A32 X) (0, 0) _ (fun _ h => h.1) Tryd.underlying24 rfl (info_A32l X HX.out) ?_
        refine lex_act rfl rfl (fun K hK => ?_)
        go_simp
        refine (same_calls X X HX.out HX.out w2).mono ?_
        rintro e w3 ⟨rfl, hb3⟩
        have HS3 := Lib.hid (HS2.out.call hb3)
        clear hb3
        rw [HXX.out]
        refine hK _ _ (ActLeft.keep rfl fun _ => HS3.out.both) ?_
        clear hK K
        refine lex_blind 2 (by kernel_rfl) ?_
        simp only [List.take_succ_cons, List.take_zero, List.drop_succ_cons, List.drop_zero, List.map_cons, List.map_nil, Act.put, List.setIfInBounds_toArray, List.set_cons_succ, List.set_cons_zero]
        repeat (go_big_quiet_step (fail))
        refine wpQuiet_nil ?_
        refine lex_nil ?_
        have HB := Lib.hid HS3.out
        have hx0 := Int.emod_nonneg z (b := (256 : Int)) (by omega)
        have hx1 := Int.emod_lt_of_pos z (b := (256 : Int)) (by omega)
        obtain ⟨n, hn⟩ : ∃ n : Nat, z % (256 : Int) = n := ⟨(z % (256 : Int)).toNat, by omega⟩
        rw [hn] at hx0 hx1
        have hn256 : n < 256 := by omega
        have HN := Lib.hid hn
        clear hn hx0 hx1 hexy
        go_upto_region 13 with (first
          | (go_at_call 12; refine (bring_calls z (256 : Int) (by omega) (by omega) fz.1 fz.2 _).mono ?_; rintro e w8 ⟨rfl, rfl⟩; rw [HN.out])
          | (refine wpList_load_blk rfl 24 (.tmp 7) rfl w.heap.size 0 rfl _ _ _ HB.out.both.1 (A32 X) (List.take_of_length_le (Nat.le_refl _)) _ Tryd.underlying24 rfl (info_A32l X HX.out) ?_)
          | (refine wpList_store_upd rfl 24 (.tmp 11) (.tmp 51) rfl w3.heap.size 0 (.agg (A32 X)) rfl rfl _ z32 (heap_new w3 _) (info_A32l X HX.out) (Nat.le_of_eq ((Nat.zero_add _).trans ((size_A32 X).trans HX.out))) (one_A32 _) rfl ?_; intro w4 hu4; rw [show put z32 0 (Value.agg (A32 X)).cells = A32 X from put_whole _ _ ((size_A32 X).trans HX.out).symm] at hu4; have HZ := Lib.hid (s3_start HB.out hu4); clear hu4))
        generalize w3.heap.size = q at *
        have hn8 : n / 8 < 32 := by omega
        have hc0 := HZ.out.cell (n / 8) (by rw [HX.out]; exact hn8)
        have hnn := set_ne X (n / 8) (UInt8.ofNat (2 ^ (n % 8))) (by rw [HX.out]; exact hn8) (bit_ne (n % 8) (by omega))
        have hzl : (X.set (n / 8) (X.getD (n / 8) 0 ^^^ UInt8.ofNat (2 ^ (n % 8)))).length = 32 := by rw [List.length_set]; exact HX.out
        have hpz := put_A32l X (n / 8) (X.getD (n / 8) 0 ^^^ UInt8.ofNat (2 ^ (n % 8))) (by rw [HX.out]; exact hn8)
        generalize hZd : X.set (n / 8) (X.getD (n / 8) 0 ^^^ UInt8.ofNat (2 ^ (n % 8))) = Z at hnn hzl hpz
        generalize X.getD (n / 8) 0 = x0 at hc0 hpz
        have HNN := Lib.hid hnn
        have HZL := Lib.hid hzl
        have HPZ := Lib.hid hpz
        have hsz : n / 8 + 1 ≤ (A32 X).size := by rw [size_A32, HX.out]; omega
        have HSZ := Lib.hid hsz
        have hq0 : 0 ≤ (n : Int) / 8 := by omega
        have hq1 : (n : Int) / 8 < 32 := by omega
        have hr0 : 0 ≤ (n : Int) % 8 := by omega
        clear hnn hzl hpz hsz hZd
        refine wp_region_quiet_tail 11 (fun w' => ∃ n, w' = w4.drewN n) ⟨1, rfl⟩ (by kernel_rfl) (by kernel_rfl) ?_
        simp only [List.take_succ_cons, List.take_zero, List.drop_succ_cons, List.drop_zero]
        repeat (go_big_quiet_step (fail))
        refine wpQuiet_nil ?_
        intro _ hw'
        obtain ⟨nq, hw''⟩ := hw'
        subst hw''
        refine wpList_store_upd rfl 5 _ _ rfl q (n / 8) (bv (x0 ^^^ UInt8.ofNat (2 ^ (n % 8)))) rfl ?_ _ _ (HZ.out.drewN nq).z info_u8 HSZ.out (one_bv _) rfl ?_
        · refine congrArg (Value.int .u8) (?_ : _ = ((x0 ^^^ UInt8.ofNat (2 ^ (n % 8))).toNat : Int))
          exact bit_val x0 (n % 8)
        · intro w5 hu5
          rw [HPZ.out] at hu5
          have HZ2 := Lib.hid ((HZ.out.drewN nq).step hu5)
          have hx32 := HX.out
          have hz32 := HZL.out
          have hXZ := Lib.hid HNN.out.1
          have hZX := Lib.hid HNN.out.2
          clear hu5 HZ hq0 hq1 hr0 hc0
          go_wp2_with (first
            | (refine wpList_load_row_g (by rfl) 24 (.tmp 7) rfl w.heap.size rfl _ _ _ _ HZ2.out.x Tryd.underlying24 rfl (info_A32l X HX.out) ?_)
            | (refine wpList_load_row_g (by rfl) 24 (.tmp 11) rfl q rfl _ _ _ _ HZ2.out.z Tryd.underlying24 rfl (info_A32l Z HZL.out) ?_)
            | (go_at_call 19; refine (same_calls _ _ (by assumption) (by assumption) _).mono ?_; rintro e w6 ⟨rfl, hb6⟩; (first | rw [hXZ.out] | rw [hZX.out]); replace HZ2 := Lib.hid (HZ2.out.call hb6); clear hb6)
            | (go_at_call 9; refine (works3_calls _ (HT.out.below HZ2.out.below HT.out.lt)).mono ?_; rintro e w7 ⟨rfl, hb7⟩; replace HZ2 := Lib.hid (HZ2.out.call hb7); clear hb7))
          go_ret
          exact ⟨rfl, HZ2.out.below⟩)
end Go.Proofs.YtlgaikknodoilaaDoor.Sh
