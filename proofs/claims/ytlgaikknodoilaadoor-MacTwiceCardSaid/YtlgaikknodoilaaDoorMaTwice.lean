/- The walk of MacTwice. -/
import Derived.Test.YtlgaikknodoilaaDoorMaWorks
import Derived.Test.YtlgaikknodoilaaDoorShOpen
namespace Go.Proofs.YtlgaikknodoilaaDoor.Sh
open Go Go.RowKit

/-- xored, so far: of the first i bytes. -/
def xmix (key : Bs) (x : UInt8) (i : Nat) : Bs := (key.take i).map (x ^^^ ·) ++ List.replicate (64 - i) x
theorem length_xmix (key : Bs) (x : UInt8) (i : Nat) (hi : i ≤ key.length) (h : key.length ≤ 64) : (xmix key x i).length = 64 := by simp [xmix]; omega
theorem xmix_step (key : Bs) (x : UInt8) (i : Nat) (hi : i < key.length) (h : key.length ≤ 64) : (xmix key x i).set i (x ^^^ key.getD i 0) = xmix key x (i + 1) := by
  unfold xmix
  have hl : ((key.take i).map (x ^^^ ·)).length = i := by simp; omega
  obtain ⟨r, hr⟩ : ∃ r, 64 - i = r + 1 := ⟨63 - i, by omega⟩
  rw [List.set_append_right _ _ (by omega), hl, Nat.sub_self, hr, List.replicate_succ, List.set_cons_zero, show 64 - (i + 1) = r by omega, List.take_succ_eq_append_getElem hi, List.map_append, List.append_assoc, List.getD_eq_getElem?_getD, List.getElem?_eq_getElem hi]
  rfl
theorem xmix_get (key : Bs) (x : UInt8) (i : Nat) (hi : i < key.length) (h : key.length ≤ 64) : (xmix key x i).getD i 0 = x := by
  unfold xmix
  rw [List.getD_eq_getElem?_getD, List.getElem?_append_right (by simp; omega)]
  rw [List.getElem?_replicate, if_pos (by simp; omega)]
  rfl
theorem xor_comm8 (a b : UInt8) : a ^^^ b = b ^^^ a := by
  apply UInt8.toBitVec_inj.1
  rw [UInt8.toBitVec_xor, UInt8.toBitVec_xor, BitVec.xor_comm]
theorem zero_xor8 (a : UInt8) : 0 ^^^ a = a := by
  apply UInt8.toBitVec_inj.1
  rw [UInt8.toBitVec_xor]
  exact BitVec.zero_xor ..
theorem xmix_all (key : Bs) (x : UInt8) (h : key.length ≤ 64) : xmix key x key.length = xk x key := by
  unfold xmix xk
  rw [key64_short key h, List.map_append, List.map_replicate, zero_xor8, List.take_of_length_le (Nat.le_refl _)]
  congr 1
  exact List.map_congr_left fun a _ => xor_comm8 x a
theorem xmix_zero (key : Bs) (x : UInt8) : xmix key x 0 = List.replicate 64 x := rfl
/-- The row that xored writes. -/
structure XoAt (w : World) (key : Bs) (x : UInt8) (g cap i : Nat) (wr : World) : Prop where
  row : ∃ l : List Value, wr.heap[g]? = some (.cells l.toArray 5 (0, 0)) ∧ l.length = cap ∧ l.take 64 = (xmix key x i).map bv
  lg : w.heap.size ≤ g
  cap64 : 64 ≤ cap
  capm : cap ≤ maxLen
  below : Below w.heap.size w wr
theorem xo_start {w w1 : World} {key : Bs} {x : UInt8} {v : Value} (ho : Own w.heap.size w1 v (List.replicate 64 x)) (hb : Below w.heap.size w w1) : ∃ g cap, v = .slice (some ⟨g, 0, none⟩) 64 cap ∧ XoAt w key x g cap 0 w1 := by
  obtain ⟨_, ⟨_, h0⟩ | ⟨g, cap, cur, rfl, hg, hh, hc, hm, hcs, htk⟩⟩ := ho
  · simp at h0
  · rw [List.length_replicate] at *
    exact ⟨g, cap, rfl, ⟨cur.toList, by simpa using hh, by simpa using hcs, by simpa [xmix_zero] using htk⟩, hg, hc, hm, hb⟩
theorem XoAt.cell {w wr : World} {key : Bs} {x : UInt8} {g cap i : Nat} (h : XoAt w key x g cap i wr) (hi : i < key.length) (h64 : key.length ≤ 64) : wr.cell? ⟨g, i, none⟩ = some (.int .u8 (x.toNat : Int)) := by
  obtain ⟨l, h1, h2, h3⟩ := h.row
  have hc := h.cap64
  rw [cell_of_row wr g i _ _ _ h1, List.getElem?_toArray]
  have e : (l.take 64)[i]? = ((xmix key x i).map bv)[i]? := by rw [h3]
  have hl := length_xmix key x i (by omega) h64
  rw [List.getElem?_take, if_pos (by omega), List.getElem?_map] at e
  have e2 := xmix_get key x i hi h64
  rw [List.getD_eq_getElem?_getD, List.getElem?_eq_getElem (by omega)] at e2
  simp only [Option.getD_some] at e2
  rw [e, List.getElem?_eq_getElem (by omega), Option.map_some, e2]; rfl
theorem XoAt.step {w wr w2 : World} {key : Bs} {x y : UInt8} {g cap i : Nat} (h : XoAt w key x g cap i wr) (hi : i < key.length) (h64 : key.length ≤ 64) (hy : y = x ^^^ key.getD i 0) {l : List Value} (h1 : wr.heap[g]? = some (.cells l.toArray 5 (0, 0))) (hl : l.length = cap) (h3 : l.take 64 = (xmix key x i).map bv)
    (hu : Upd g (.cells (put l.toArray i (bv y).cells) 5 (0, 0)) wr w2) : XoAt w key x g cap (i + 1) w2 := by
  have hc := h.cap64
  rw [put_one l i (bv y) (by simp [bv, Value.cells]) (by omega)] at hu
  refine ⟨⟨l.set i (bv y), hu.here, by rw [List.length_set]; exact hl, ?_⟩, h.lg, h.cap64, h.capm, h.below.trans (hu.below h.lg)⟩
  rw [List.take_set, h3, ← List.map_set, hy, xmix_step key x i hi h64]
theorem XoAt.drewN {w wr : World} {key : Bs} {x : UInt8} {g cap i : Nat} (h : XoAt w key x g cap i wr) (n : Nat) : XoAt w key x g cap i (wr.drewN n) := ⟨h.row, h.lg, h.cap64, h.capm, h.below.trans (c := wr.drewN n) ⟨rfl, rfl, rfl, Nat.le_refl _, fun _ _ => rfl⟩⟩
theorem XoAt.rd {w wr : World} {key : Bs} {x : UInt8} {g cap : Nat} (h : XoAt w key x g cap key.length wr) (h64 : key.length ≤ 64) : RD wr.heap.size wr (.slice (some ⟨g, 0, none⟩) 64 cap) (xk x key) := by
  obtain ⟨l, h1, h2, h3⟩ := h.row
  have hc := h.cap64
  rw [xmix_all key x h64] at h3
  have hl : ((xk x key).map bv).length = 64 := by rw [List.length_map, length_xk]
  refine ⟨some ⟨g, 0, none⟩, cap, by rw [hl], by omega, h.capm, fun e => (by cases e), fun _ => ⟨g, 0, rfl, lt_of_heap h1, fun j u hj => ?_⟩⟩
  rw [cell_of_row wr g (0 + j) _ _ _ h1, List.getElem?_toArray, Nat.zero_add]
  rw [← h3, List.getElem?_take] at hj
  split at hj
  · exact hj
  · cases hj

set_option maxHeartbeats 400000 in
theorem xored_calls (kv : Value) (key : Bs) (h64 : key.length ≤ 64) (x : UInt8) (w : World) (hk0 : RD w.heap.size w kv key) :
    Calls Tryd.prog 17 #[kv, .int .u8 (x.toNat : Int)] w fun e w' => ∃ v', e = .returned v' ∧ RD w'.heap.size w' v' (xk x key) ∧ Below w.heap.size w w' := by
  have HK := Lib.hid hk0
  obtain ⟨ka, kc, rfl, _, _⟩ := hk0.form
  have mk := Lib.hid (many_calls x 64 (by omega) w)
  clear hk0
  go_enter Tryd.func17, Tryd.ntmps17
  go_upto_region 2 with (go_at_call 14; refine Calls.mono (show Calls Tryd.prog 14 #[.int .u8 (x.toNat : Int), .int .i64 64] w _ from mk.out) ?_; rintro e w1 ⟨v1, rfl, ho1, hb1⟩; replace ho1 := Lib.hid ho1; replace hb1 := Lib.hid hb1)
  obtain ⟨g, cap, rfl, hX⟩ := xo_start (key := key) ho1.out hb1.out
  have hX0 := Lib.hid hX
  clear ho1 hb1 hX mk
  go_wp2_with fail
  go_loopg [6] key.length (fun gk iv wr => ∃ i : Nat, i + gk = key.length ∧ iv = .int .i64 i ∧ XoAt w key x g cap i wr)
  case atStart => exact ⟨0, by omega, rfl, hX0.out⟩
  case round =>
    obtain ⟨i, hi, rfl, hX⟩ := hrel
    have HX := Lib.hid hX
    clear hX0
    by_cases hlt : i < key.length
    · have hi64 : (i : Int) < 64 := by omega
      have c0 := hX.cell hlt h64
      have hc64 := hX.cap64
      obtain ⟨l, h1, hl, h3⟩ := hX.row
      obtain ⟨b, o, c, hkv, _, _, _⟩ := HK.out.addr (by intro e; subst e; simp at hlt)
      simp only [Value.slice.injEq] at hkv
      obtain ⟨rfl, _, rfl⟩ := hkv
      have hrd := (HK.out.below hX.below).cell i hlt
      have H1 := Lib.hid h1
      have HL := Lib.hid hl
      have H3 := Lib.hid h3
      have hli : i + 1 ≤ l.toArray.size := by simp; omega
      have HLI := Lib.hid hli
      generalize hy0 : key.getD i 0 = y0 at hrd
      have HY := Lib.hid hy0
      unfold bv at hrd
      clear hX h1 hl h3 hli hy0
      go_upto_region 5 with fail
      refine wp_region_quiet_tail 12 (fun w' => ∃ n, w' = wr.drewN n) ⟨1, rfl⟩ (by kernel_rfl) (by kernel_rfl) ?_
      simp only [List.take_succ_cons, List.take_zero, List.drop_succ_cons, List.drop_zero]
      repeat (go_big_quiet_step (fail))
      refine wpQuiet_nil ?_
      intro _ hw'
      obtain ⟨nq, hw''⟩ := hw'
      subst hw''
      refine wpList_store_upd rfl 5 _ _ rfl g i (bv (x ^^^ y0)) rfl (congrArg (Value.int .u8) (u8_xor x y0)) _ l.toArray H1.out info_u8 HLI.out (one_bv _) rfl ?_
      intro w2 hu2
      have HN := Lib.hid ((HX.out.drewN nq).step hlt h64 (by rw [HY.out]) H1.out HL.out H3.out hu2)
      clear hu2 HX H1 HL H3
      go_wp2_with fail
      go_roundg (gk - 1)
      case measure => omega
      case rel => exact ⟨i + 1, by omega, by go_num, HN.out⟩
    · obtain rfl : i = key.length := by omega
      clear hlt hi
      by_cases hi64 : (key.length : Int) < 64
      · go_wp2_with fail
        go_ret
        exact ⟨_, rfl, HX.out.rd h64, HX.out.below⟩
      · go_wp2_with fail
        go_ret
        exact ⟨_, rfl, HX.out.rd h64, HX.out.below⟩
theorem xored54 (kv : Value) (key : Bs) (h64 : key.length ≤ 64) (w : World) (hk0 : RD w.heap.size w kv key) :
    Calls Tryd.prog 17 #[kv, .int .u8 54] w fun e w' => ∃ v', e = .returned v' ∧ RD w'.heap.size w' v' (xk 54 key) ∧ Below w.heap.size w w' := xored_calls kv key h64 54 w hk0
theorem xored92 (kv : Value) (key : Bs) (h64 : key.length ≤ 64) (w : World) (hk0 : RD w.heap.size w kv key) :
    Calls Tryd.prog 17 #[kv, .int .u8 92] w fun e w' => ∃ v', e = .returned v' ∧ RD w'.heap.size w' v' (xk 92 key) ∧ Below w.heap.size w w' := xored_calls kv key h64 92 w hk0
theorem new_LHx (w0 w : World) (h : LI w0 w) :
    Calls Tryd.prog 15 #[] w fun e w' => ∃ p, e = .returned (.pointer (some ⟨p, 0, none⟩)) ∧ LH w0 p [] w' :=
  (new_LH w0 w h).mono fun _ _ ⟨h1, h2⟩ => ⟨_, h1, h2⟩
theorem write_LHc (w0 : World) (p : Nat) (c x : Bs) (sv : Value) (w : World) (ht : Tab w0) (h : LH w0 p c w) (hx : RD w.heap.size w sv x) (hlen : c.length + x.length ≤ 1099511627776) :
    Calls Tryd.prog 16 #[.pointer (some ⟨p, 0, none⟩), sv] w fun e w' => e = .returned (.pointer (some ⟨p, 0, none⟩)) ∧ LH w0 p (c ++ x) w' :=
  (write_calls p c x sv w h.li.tab h.hash hx (by have := h.own; have := ht.lt; omega) hlen).mono fun _ _ ⟨h1, h2, h3⟩ => ⟨h1, h.write h2 h3 ht⟩
theorem KD.drew {w0 w : World} {p : Nat} {d : Bs} (h : KD w0 p d w) : KD w0 p d w.drew := h.call (below_drewN' (n := 1) (Below.refl _ _))
structure KQ (w0 : World) (p : Nat) (d : Bs) (q : Nat) (w : World) : Prop where
  kd : KD w0 p d w
  own : w0.heap.size ≤ q
  ne : p ≠ q
  lt : q < w.heap.size
theorem KQ.call {w0 w w' : World} {p q : Nat} {d : Bs} (h : KQ w0 p d q w) (hb : Below w.heap.size w w') : KQ w0 p d q w' := ⟨h.kd.call hb, h.own, h.ne, by have := h.lt; have := hb.size; omega⟩
theorem new_KD (w0 : World) (p : Nat) (d : Bs) (w : World) (h : KD w0 p d w) :
    Calls Tryd.prog 15 #[] w fun e w' => ∃ q, e = .returned (.pointer (some ⟨q, 0, none⟩)) ∧ KQ w0 p d q w' ∧ HashAt w' q [] :=
  (new_calls w).mono fun _ _ ⟨h1, h2, h3, _⟩ => ⟨w.heap.size, h1, ⟨h.call h3, h.li.bel.size, Nat.ne_of_lt (lt_of_heap h.row), h2.lt⟩, h2⟩
theorem write_KQ (w0 : World) (p : Nat) (d : Bs) (q : Nat) (c x : Bs) (sv : Value) (w : World) (ht : Tab w0) (h : KQ w0 p d q w) (hh : HashAt w q c) (hx : RD w.heap.size w sv x) (hlen : c.length + x.length ≤ 1099511627776) :
    Calls Tryd.prog 16 #[.pointer (some ⟨q, 0, none⟩), sv] w fun e w' => e = .returned (.pointer (some ⟨q, 0, none⟩)) ∧ KQ w0 p d q w' ∧ HashAt w' q (c ++ x) :=
  (write_calls q c x sv w h.kd.li.tab hh hx (by have := h.own; have := ht.lt; omega) hlen).mono fun _ w' ⟨h1, h2, h3⟩ => ⟨h1,
    ⟨⟨(LH.write ⟨h.kd.li, h.own, hh⟩ h2 h3 ht).li, (h3.block p (lt_of_heap h.kd.row) h.ne).trans h.kd.row⟩, h.own, h.ne, h2.lt⟩, h2⟩
theorem put_A32' (m : Bs) : put z32 0 (Value.agg (A32 (sha m))).cells = A32 (sha m) := put_A32 m

set_option maxRecDepth 4000 in
set_option maxHeartbeats 1000000 in
theorem twice_calls (w : World) (ht : Tab w) (v : Value) (m0 : Bs) (hv : RD w.heap.size w v m0) (xv : Value) (x0 : Bs) (hxv : RD w.heap.size w xv x0) :
    Calls Tryd.prog 4 #[v, xv] w fun e w' => e = .returned (.bool true) ∧ Below w.heap.size w w' := by
  obtain ⟨a, c, rfl, hc, hcm⟩ := hv.form
  obtain ⟨sa, sc, rfl, hsc, hscm⟩ := hxv.form
  obtain ⟨k, hk, hk2, hmin0⟩ := min_to m0.length 64
  have hmin : (if (64 : Int) < (m0.length : Int) then (64 : Int) else (m0.length : Int)) = (k : Int) := hmin0
  clear hmin0
  obtain ⟨u, hu, hur⟩ := rd_to (a := a) (n := m0.length) (c := c) .i64 k hk hc
  have hm := hur _ _ _ hv
  clear hur hv
  have hml : (m0.take k).length = k := by rw [List.length_take]; omega
  generalize m0.take k = m at hm hml
  obtain ⟨ua, uc, rfl, huc, _⟩ := hm.form
  rw [hml] at hu huc
  subst hml
  obtain ⟨l, hl, hl2, hminx0⟩ := min_to x0.length 300
  have hminx : (if (300 : Int) < (x0.length : Int) then (300 : Int) else (x0.length : Int)) = (l : Int) := hminx0
  clear hminx0
  obtain ⟨s, hs, hsr⟩ := rd_to (a := sa) (n := x0.length) (c := sc) .i64 l hl hsc
  have hx := hsr _ _ _ hxv
  clear hsr hxv
  have hxl : (x0.take l).length = l := by rw [List.length_take]; omega
  generalize x0.take l = x at hx hxl
  obtain ⟨xa, xc, rfl, hxc, _⟩ := hx.form
  rw [hxl] at hs hxc
  subst hxl
  replace hm := Lib.hid hm
  replace hx := Lib.hid hx
  have HT := Lib.hid ht
  have li := Lib.hid (LI.start ht)
  have e54 := length_xk 54 m
  have e92 := length_xk 92 m
  have e32 := length_sha (xk 54 m ++ x)
  have hlm : m.length ≤ 549755813888 := by omega
  have hlx : x.length ≤ 500000000000 := by omega
  have hle0 : ([] : Bs).length + (xk 54 m).length ≤ 1099511627776 := by
    have : ([] : Bs).length = 0 := rfl
    omega
  have hle : ([] : Bs).length + (xk 92 m).length ≤ 1099511627776 := by
    have : ([] : Bs).length = 0 := rfl
    omega
  have hle1 : (xk 54 m).length + x.length ≤ 1099511627776 := by omega
  have hle2 : (xk 92 m).length + (sha (xk 54 m ++ x)).length ≤ 1099511627776 := by omega
  have hle3 : (xk 92 m ++ sha (xk 54 m ++ x)).length ≤ 549755813888 := by rw [List.length_append]; omega
  have hle4 : (xk 54 m ++ x).length ≤ 549755813888 := by rw [List.length_append]; omega
  have HLM := Lib.hid hlm
  have HLX := Lib.hid hlx
  have HLE0 := Lib.hid hle0
  have HLE := Lib.hid hle
  have HLE1 := Lib.hid hle1
  have HLE2 := Lib.hid hle2
  have HLE3 := Lib.hid hle3
  have HLE4 := Lib.hid hle4
  have HL32 := Lib.hid e32
  have HL64 := Lib.hid hk2
  clear hlm hlx hle0 hle hle1 hle2 hle3 hle4 e54 e92 e32
  have heq : ∀ w, (binOp .eql 24 (.agg (A32 (hmac m x))) (.agg (A32 (sha (xk 92 m ++ sha (xk 54 m ++ x)))))).run Tryd.prog w = .ok (.bool true) w := fun w => run_eql_same (hmac m x) (length_hmac m x) w
  go_enter Tryd.func4, Tryd.ntmps4
  go_upto_region 1 with fail
  refine wp_region_lex Every [] [] [] (by kernel_rfl) (by kernel_rfl) (fun _ => trivial) ?_
  simp only [List.zipIdx_cons, List.zipIdx_nil, Nat.zero_add, Nat.reduceAdd]
  refine lex_blind 12 (by kernel_rfl) ?_
  simp only [List.take_succ_cons, List.take_zero, List.drop_succ_cons, List.drop_zero, List.map_cons, List.map_nil, Act.put, List.setIfInBounds_toArray, List.set_cons_succ, List.set_cons_zero]
  repeat (go_big_quiet_step (fail))
  refine wpQuiet_nil ?_
  refine lex_nil ?_
  clear hmin hminx hu hs
  go_upto_region 3 with (first
    | (go_at_call 15; refine (new_LHx w _ li.out.drew).mono ?_; rintro e w1 ⟨q0, rfl, lh⟩; replace lh := Lib.hid lh)
    | (go_at_call 17; refine (xored54 (.slice ua m.length uc) m HL64.out _ (lh.out.li.rd hm.out)).mono ?_; rintro e w2 ⟨v2, rfl, hr2, hb2⟩; replace lh := Lib.hid (lh.out.call hb2); replace hr2 := Lib.hid hr2; clear hb2)
    | (go_at_call 16; refine (write_LHc w q0 _ _ _ _ HT.out lh.out (by first | exact hr2.out | exact lh.out.li.rd hx.out) (by first | exact HLE0.out | exact HLE1.out)).mono ?_; rintro e w3 ⟨rfl, lh3⟩; replace lh := Lib.hid lh3; clear lh3; try rw [List.nil_append] at lh)
    | (go_at_call 18; refine (sum_LH w q0 (xk 54 m ++ x) _ lh.out HLE4.out).mono ?_; rintro e w4 ⟨rfl, lh4⟩; replace lh := Lib.hid lh4; clear lh4)
    | (refine wpList_store_upd rfl 24 (.tmp 5) (.tmp 22) rfl w4.heap.size 0 (.agg (A32 (sha (xk 54 m ++ x)))) rfl rfl _ z32 (heap_new w4 _) (info_A32 _) (le_A32 _) (one_A32 _) rfl ?_; intro w5 hu5; rw [put_A32'] at hu5; replace hu5 := Lib.hid hu5))
  have hd0 := Lib.hid (kd_start lh.out.li hu5.out)
  generalize w4.heap.size = p at *
  clear lh hu5
  refine wp_region_lex Every [2, 3, 5, 6, 8, 9, 12] [] [] (by kernel_rfl) (by kernel_rfl) (fun _ => trivial) ?_
  simp only [List.zipIdx_cons, List.zipIdx_nil, Nat.zero_add, Nat.reduceAdd]
  refine lex_blind 2 (by kernel_rfl) ?_
  simp only [List.take_succ_cons, List.take_zero, List.drop_succ_cons, List.drop_zero, List.map_cons, List.map_nil, Act.put, List.setIfInBounds_toArray, List.set_cons_succ, List.set_cons_zero]
  repeat (go_big_quiet_step (fail))
  refine wpQuiet_nil ?_
  refine lex_act rfl rfl (fun K hK => ?_)
  go_simp
  refine (mac_L w (.slice ua m.length uc) (.slice xa x.length xc) m x _ (hd0.out.li.drew) (hd0.out.li.drew.rd hm.out) (hd0.out.li.drew.rd hx.out) HLM.out HLX.out).mono ?_
  rintro e w6 ⟨rfl, hl6, hb6⟩
  refine hK _ _ (ActLeft.keep rfl fun h => h) ?_
  clear hK K
  have hd6 := Lib.hid (hd0.out.call (below_drew hb6))
  clear hl6 hb6
  refine lex_act rfl rfl (fun K hK => ?_)
  go_simp
  refine (new_KD w p _ w6 hd6.out).mono ?_
  rintro e w7 ⟨q, rfl, hd7, hh7⟩
  refine hK _ _ (ActLeft.keep rfl fun h => h) ?_
  clear hK K
  replace hd7 := Lib.hid hd7
  replace hh7 := Lib.hid hh7
  refine lex_blind 1 (by kernel_rfl) ?_
  simp only [List.take_succ_cons, List.take_zero, List.drop_succ_cons, List.drop_zero, List.map_cons, List.map_nil, Act.put, List.setIfInBounds_toArray, List.set_cons_succ, List.set_cons_zero]
  repeat (go_big_quiet_step (fail))
  refine wpQuiet_nil ?_
  refine lex_act rfl rfl (fun K hK => ?_)
  go_simp
  refine (xored92 (.slice ua m.length uc) m HL64.out w7 (hd7.out.kd.li.rd hm.out)).mono ?_
  rintro e w8 ⟨v8, rfl, hr8, hb8⟩
  refine hK _ _ (ActLeft.keep rfl fun h => h) ?_
  clear hK K
  have hd8 := Lib.hid (hd7.out.call hb8)
  have hh8 := Lib.hid (hh7.out.below hb8)
  replace hr8 := Lib.hid hr8
  clear hb8
  refine lex_act rfl rfl (fun K hK => ?_)
  go_simp
  refine (write_KQ w p _ q [] (xk 92 m) v8 w8 HT.out hd8.out hh8.out hr8.out HLE.out).mono ?_
  rintro e w9 ⟨rfl, hd9, hh9⟩
  refine hK _ _ (ActLeft.keep rfl fun h => h) ?_
  clear hK K
  rw [List.nil_append] at hh9
  replace hd9 := Lib.hid hd9
  replace hh9 := Lib.hid hh9
  refine lex_blind 1 (by kernel_rfl) ?_
  simp only [List.take_succ_cons, List.take_zero, List.drop_succ_cons, List.drop_zero, List.map_cons, List.map_nil, Act.put, List.setIfInBounds_toArray, List.set_cons_succ, List.set_cons_zero]
  repeat (go_big_quiet_step (fail))
  refine wpQuiet_nil ?_
  refine lex_act rfl rfl (fun K hK => ?_)
  go_simp
  refine (write_KQ w p _ q (xk 92 m) (sha (xk 54 m ++ x)) (.slice (some ⟨p, 0, none⟩) 32 32) w9 HT.out hd9.out hh9.out (rd_RB w9 p 32 _ _ _ HL32.out (by simp only [maxLen]; omega) hd9.out.kd.row) HLE2.out).mono ?_
  rintro e w10 ⟨rfl, hd10, hh10⟩
  refine hK _ _ (ActLeft.keep rfl fun h => h) ?_
  clear hK K
  replace hd10 := Lib.hid hd10
  replace hh10 := Lib.hid hh10
  refine lex_act rfl rfl (fun K hK => ?_)
  go_simp
  refine (sum_calls' q (xk 92 m ++ sha (xk 54 m ++ x)) w10 hd10.out.kd.li.tab hh10.out HLE3.out).mono ?_
  rintro e w11 ⟨rfl, hb11⟩
  refine hK _ _ (ActLeft.keep rfl fun h => h) ?_
  clear hK K
  have hd11 := Lib.hid (hd10.out.kd.li.call hb11)
  clear hb11
  refine lex_blind 2 (by kernel_rfl) ?_
  simp only [List.take_succ_cons, List.take_zero, List.drop_succ_cons, List.drop_zero, List.map_cons, List.map_nil, Act.put, List.setIfInBounds_toArray, List.set_cons_succ, List.set_cons_zero]
  repeat (go_big_quiet_step (fail))
  refine wpQuiet_nil ?_
  refine lex_act rfl rfl (fun K hK => ?_)
  go_simp
  refine (works3_calls w11 hd11.out.tab).mono ?_
  rintro e w12 ⟨rfl, hb12⟩
  refine hK _ _ (ActLeft.keep rfl fun h => h) ?_
  clear hK K
  have hd12 := Lib.hid (hd11.out.call hb12)
  clear hb12
  refine lex_blind 2 (by kernel_rfl) ?_
  simp only [List.take_succ_cons, List.take_zero, List.drop_succ_cons, List.drop_zero, List.map_cons, List.map_nil, Act.put, List.setIfInBounds_toArray, List.set_cons_succ, List.set_cons_zero]
  repeat (go_big_quiet_step (fail))
  refine wpQuiet_nil ?_
  refine lex_nil ?_
  go_wp2_with fail
  go_ret
  exact ⟨rfl, hd12.out.bel⟩
end Go.Proofs.YtlgaikknodoilaaDoor.Sh
