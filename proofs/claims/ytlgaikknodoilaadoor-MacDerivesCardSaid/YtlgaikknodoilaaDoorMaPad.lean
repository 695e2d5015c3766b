/- The contracts of the two function literals in pads. -/
import Derived.Test.YtlgaikknodoilaaDoorMaSpec
import Derived.Test.YtlgaikknodoilaaDoorShLH
import Derived.Laws.CopyOwn
namespace Go.Proofs.YtlgaikknodoilaaDoor.Sh
set_option linter.unusedVariables false
set_option linter.unusedSimpArgs false
open Go Go.RowKit

theorem put_A32 (m : Bs) : put z32 0 (Value.agg (A32 (sha m))).cells = A32 (sha m) := put_whole _ _ (by show 32 = (A32 (sha m)).size; rw [size_A32, length_sha])
/-- A row of bytes. -/
def RB (l : Bs) : Array Value := (l.map bv).toArray
theorem size_RB (l : Bs) : (RB l).size = l.length := by simp [RB]
theorem one_RB (l : Bs) : (Value.agg (RB l)).cells.all (·.oneCell') = true := by
  refine Array.all_eq_true_iff_forall_mem.2 fun x hx => ?_
  have hx : x ∈ l.map bv := by simpa [RB, Value.cells] using hx
  obtain ⟨y, _, rfl⟩ := List.mem_map.1 hx
  rfl
theorem info_b64 : (Tryd.prog.info? 65).map (·.size) = some 64 := by kernel_rfl
theorem info_RB (l : Bs) (h : l.length = 64) : (Tryd.prog.info? 65).map (·.size) = some (RB l).size := by rw [size_RB, h]; exact info_b64
theorem RB_get (l : Bs) (k : Nat) (h : k < l.length) : (RB l)[k]? = some (bv (l.getD k 0)) := by
  simp [RB, List.getElem?_eq_getElem h, List.getD_eq_getElem?_getD]
theorem put_RB (T : Bs) (i : Nat) (x : UInt8) (hi : i < T.length) : put (RB T) i (bv x).cells = RB (T.set i x) := by
  unfold RB
  rw [put_one _ _ _ (by simp [bv, Value.cells]) (by simpa using hi), List.map_set]
theorem rd_RB (w : World) (t n : Nat) (T : Bs) (ty : TypeId) (fr : Nat × Nat) (hn : T.length = n) (hm : n ≤ maxLen) (h : w.heap[t]? = some (.cells (RB T) ty fr)) : RD w.heap.size w (.slice (some ⟨t, 0, none⟩) n n) T := by
  refine ⟨some ⟨t, 0, none⟩, n, by rw [List.length_map, hn], by rw [List.length_map, hn]; exact Nat.le_refl _, hm, fun e => (by cases e), fun _ => ⟨t, 0, rfl, lt_of_heap h, fun j u hu => ?_⟩⟩
  rw [cell_of_row w t (0 + j) _ _ _ h, Nat.zero_add]
  unfold RB
  rw [List.getElem?_toArray]
  exact hu
def zb64 : Array Value := #[.int .u8 0, .int .u8 0, .int .u8 0, .int .u8 0, .int .u8 0, .int .u8 0, .int .u8 0, .int .u8 0, .int .u8 0, .int .u8 0, .int .u8 0, .int .u8 0, .int .u8 0, .int .u8 0, .int .u8 0, .int .u8 0, .int .u8 0, .int .u8 0, .int .u8 0, .int .u8 0, .int .u8 0, .int .u8 0, .int .u8 0, .int .u8 0, .int .u8 0, .int .u8 0, .int .u8 0, .int .u8 0, .int .u8 0, .int .u8 0, .int .u8 0, .int .u8 0, .int .u8 0, .int .u8 0, .int .u8 0, .int .u8 0, .int .u8 0, .int .u8 0, .int .u8 0, .int .u8 0, .int .u8 0, .int .u8 0, .int .u8 0, .int .u8 0, .int .u8 0, .int .u8 0, .int .u8 0, .int .u8 0, .int .u8 0, .int .u8 0, .int .u8 0, .int .u8 0, .int .u8 0, .int .u8 0, .int .u8 0, .int .u8 0, .int .u8 0, .int .u8 0, .int .u8 0, .int .u8 0, .int .u8 0, .int .u8 0, .int .u8 0, .int .u8 0]
theorem zb64_eq : zb64 = RB (List.replicate 64 0) := rfl
theorem u8_xor (x y : UInt8) : bits .xor .u8 (x.toNat : Int) (y.toNat : Int) = ((x ^^^ y).toNat : Int) := by
  have h : ∀ z : UInt8, BitVec.ofInt IntKind.u8.bits (z.toNat : Int) = z.toBitVec := by
    intro z
    rw [BitVec.ofInt_natCast]; exact BitVec.eq_of_toNat_eq (by rw [BitVec.toNat_ofNat]; exact Nat.mod_eq_of_lt z.toBitVec.isLt)
  have k : ∀ z : UInt8, IntKind.u8.wrap (z.toNat : Int) = (z.toNat : Int) := by
    intro z; have := z.toNat_lt; rw [IntKind.wrap_u8]; omega
  unfold bits
  simp only [h]
  exact k (x ^^^ y)

theorem pad_calls (x : UInt8) (p : Nat) (w : World) :
    Calls Tryd.prog 38 #[.int .u8 (x.toNat : Int), .pointer (some ⟨p, 0, none⟩)] w fun e w' =>
      e = .returned (.func (.func 39) #[] #[.pointer (some ⟨p, 0, none⟩), .pointer (some ⟨w.heap.size, 0, none⟩)]) ∧ w' = w.alloc (.cells #[bv x] 5) := by
  have hmf : ∀ (fn : Fn) (first cap : Array Value) (w : World), (Instr.makeFunc fn first cap).run Tryd.prog w = .ok (.func fn first cap) w := fun _ _ _ _ => rfl
  go_enter Tryd.func38, Tryd.ntmps38
  go_wp2_with fail
  go_ret
  exact ⟨rfl, rfl⟩

/-- In the literal: the key, xored so far. -/
def mixed (K : Bs) (x : UInt8) (i : Nat) : Bs := (K.take i).map (· ^^^ x) ++ K.drop i
theorem length_mixed (K : Bs) (x : UInt8) (i : Nat) : (mixed K x i).length = K.length := by simp [mixed]; omega
theorem mixed_zero (K : Bs) (x : UInt8) : mixed K x 0 = K := rfl
theorem mixed_all (K : Bs) (x : UInt8) (h : K.length = 64) : mixed K x 64 = K.map (· ^^^ x) := by
  unfold mixed
  rw [List.take_of_length_le (by omega), List.drop_of_length_le (by omega), List.append_nil]
theorem mixed_get (K : Bs) (x : UInt8) (i : Nat) (h : i < K.length) : (mixed K x i).getD i 0 = K.getD i 0 := by
  unfold mixed
  rw [List.getD_eq_getElem?_getD, List.getD_eq_getElem?_getD, List.getElem?_append_right (by simp; omega)]
  simp [Nat.min_eq_left (Nat.le_of_lt h)]
theorem mixed_step (K : Bs) (x : UInt8) (i : Nat) (h : i < K.length) : (mixed K x i).set i (K.getD i 0 ^^^ x) = mixed K x (i + 1) := by
  unfold mixed
  have hl : ((K.take i).map (· ^^^ x)).length = i := by simp; omega
  rw [List.set_append_right _ _ (by omega), hl, Nat.sub_self, List.take_succ_eq_append_getElem h, List.map_append, List.append_assoc]
  congr 1
  rw [List.drop_eq_getElem_cons h, List.set_cons_zero, List.getD_eq_getElem?_getD, List.getElem?_eq_getElem h]
  rfl
structure PdAt (w : World) (K : Bs) (x : UInt8) (px i : Nat) (wr : World) : Prop where
  res : wr.heap[w.heap.size]? = some (.cells z32 24 (0, 0))
  k0 : wr.heap[w.heap.size + 1]? = some (.cells (RB (mixed K x i)) 65 (0, 0))
  xb : wr.cell? ⟨px, 0, none⟩ = some (.int .u8 (x.toNat : Int))
  px : px < w.heap.size
  below : Below w.heap.size w wr
theorem PdAt.drewN {w wr : World} {K : Bs} {x : UInt8} {px i : Nat} (h : PdAt w K x px i wr) (n : Nat) : PdAt w K x px i (wr.drewN n) := ⟨h.res, h.k0, h.xb, h.px, h.below.trans (c := wr.drewN n) ⟨rfl, rfl, rfl, Nat.le_refl _, fun _ _ => rfl⟩⟩
theorem PdAt.cell {w wr : World} {K : Bs} {x : UInt8} {px i : Nat} (h : PdAt w K x px i wr) (hi : i < K.length) : wr.cell? ⟨w.heap.size + 1, i, none⟩ = some (.int .u8 ((K.getD i 0).toNat : Int)) := by
  rw [cell_of_row wr _ i _ _ _ h.k0, RB_get _ _ (by rw [length_mixed]; exact hi), mixed_get K x i hi]; rfl
theorem PdAt.step {w wr w2 : World} {K : Bs} {x : UInt8} {px i : Nat} (h : PdAt w K x px i wr) (hi : i < K.length)
    (hu : Upd (w.heap.size + 1) (.cells (put (RB (mixed K x i)) i (bv (K.getD i 0 ^^^ x)).cells) 65 (0, 0)) wr w2) : PdAt w K x px (i + 1) w2 := by
  have hp := h.px
  rw [put_RB _ _ _ (by rw [length_mixed]; exact hi), mixed_step K x i hi] at hu
  exact ⟨heap_upd h.res hu (by omega), hu.here, (hu.cell (a := ⟨px, 0, none⟩) (by show px ≠ _; omega)).trans h.xb, h.px, h.below.trans (hu.below (by omega))⟩
theorem pd_start {w w2 : World} {K : Bs} {x : UInt8} {px : Nat} (hx : w.heap[px]? = some (.cells #[bv x] 5 (0, 0)))
    (hu : Upd (w.heap.size + 1) (.cells (RB K) 65 (0, 0)) ((w.alloc (.cells z32 24)).alloc (.cells zb64 65)) w2) : PdAt w K x px 0 w2 := by
  have hp := lt_of_heap hx
  refine ⟨heap_upd (heap_old (heap_new w _) _) hu (by omega), by rw [mixed_zero]; exact hu.here, ?_, hp, (((Below.refl _ _).alloc (Nat.le_refl _) _).alloc (by simp) _).trans (hu.below (by omega))⟩
  rw [cell_of_row w2 px 0 _ _ _ (heap_upd (heap_old (heap_old hx _) _) hu (by omega))]
  rfl
/-- Behind the loop: a hash at p, behind the result's block. -/
structure Pd2 (w : World) (p : Nat) (c : Bs) (wr : World) : Prop where
  tab : Tab wr
  res : wr.heap[w.heap.size]? = some (.cells z32 24 (0, 0))
  hash : HashAt wr p c
  lt : w.heap.size < p
  base : 2 ≤ w.heap.size
  below : Below w.heap.size w wr
theorem PdAt.tab {w wr w4 : World} {K : Bs} {x : UInt8} {px i : Nat} (ht : Tab w) (h : PdAt w K x px i wr) (hb : Below wr.heap.size wr w4) : Tab w4 := (ht.below h.below ht.lt).below hb (ht.below h.below ht.lt).lt
theorem PdAt.krd {w wr w4 : World} {K : Bs} {x : UInt8} {px : Nat} (hK : K.length = 64) (h : PdAt w K x px 64 wr) (hb : Below wr.heap.size wr w4) : RD w4.heap.size w4 (.slice (some ⟨w.heap.size + 1, 0, none⟩) 64 64) (K.map (· ^^^ x)) := by
  have h1 := heap_below h.k0 hb (lt_of_heap h.k0)
  rw [mixed_all K x hK] at h1
  exact rd_RB _ _ 64 _ _ _ (by rw [List.length_map, hK]) (by simp only [maxLen]; omega) h1
theorem PdAt.two {w wr : World} {K : Bs} {x : UInt8} {px i : Nat} (ht : Tab w) (h : PdAt w K x px i wr) : 2 ≤ wr.heap.size := by have := ht.lt; have := h.below.size; omega
theorem PdAt.write {w wr w4 w5 : World} {K : Bs} {x : UInt8} {px : Nat} {c : Bs} (ht : Tab w) (_hK : K.length = 64) (h : PdAt w K x px 64 wr) (hb : Below wr.heap.size wr w4) (hh4 : HashAt w4 wr.heap.size [])
    (hh : HashAt w5 wr.heap.size c) (hk : Keeps w4.heap.size wr.heap.size w4 w5) : Pd2 w wr.heap.size c w5 := by
  have h1 := lt_of_heap h.k0
  have h2 := hb.size
  have h3 := ht.lt
  have h4 := hh4.lt
  have hbel : Below w.heap.size w w5 := (h.below.trans (hb.mono (by omega))).trans ((hk.mono (by omega)).below (by omega))
  exact ⟨ht.below hbel ht.lt, (hk.block _ (by omega) (by omega)).trans (heap_below h.res hb (by omega)), hh, by omega, ht.lt, hbel⟩
theorem Pd2.rd {w wr : World} {p : Nat} {c m : Bs} {v : Value} (h : Pd2 w p c wr) (hv : RD w.heap.size w v m) : RD wr.heap.size wr v m := (hv.below h.below).mono h.below.size
theorem Pd2.two {w wr : World} {p : Nat} {c : Bs} (h : Pd2 w p c wr) : 2 ≤ p := by have := h.lt; have := h.base; omega
theorem Pd2.write {w wr w2 : World} {p : Nat} {c d : Bs} (h : Pd2 w p c wr) (hh : HashAt w2 p d) (hk : Keeps wr.heap.size p wr w2) : Pd2 w p d w2 := by
  have h1 := h.lt
  have h2 := h.base
  have h3 := h.below.size
  have h4 := h.hash.lt
  have hb : Below w.heap.size wr w2 := (hk.mono (by omega)).below (by omega)
  exact ⟨h.tab.keeps hk (by omega) (by omega), (hk.block _ (by omega) (by omega)).trans h.res, hh, h.lt, h.base, h.below.trans hb⟩
theorem Pd2.call {w wr w2 : World} {p : Nat} {c : Bs} (h : Pd2 w p c wr) (hb : Below wr.heap.size wr w2) : Pd2 w p c w2 := by
  have h3 := h.below.size
  exact ⟨h.tab.below hb h.tab.lt, heap_below h.res hb (lt_of_heap h.res), h.hash.below hb, h.lt, h.base, h.below.trans (hb.mono h3)⟩

set_option maxRecDepth 100000 in
set_option maxHeartbeats 1000000 in
theorem padded_calls (K : Bs) (hK : K.length = 64) (x : UInt8) (po px : Nat) (v : Value) (m : Bs) (w : World) (ht : Tab w) (ho : w.heap[po]? = some (.cells (RB K) 65 (0, 0))) (hx : w.heap[px]? = some (.cells #[bv x] 5 (0, 0)))
    (hv0 : RD w.heap.size w v m) (hlen : m.length ≤ 500000000000) :
    Calls Tryd.prog 39 #[v, .pointer (some ⟨po, 0, none⟩), .pointer (some ⟨px, 0, none⟩)] w fun e w' => e = .returned (.agg (A32 (sha (K.map (· ^^^ x) ++ m)))) ∧ Below w.heap.size w w' := by
  have hv := Lib.hid hv0
  have HO := Lib.hid (heap_old ho (.cells z32 24))
  have HX := Lib.hid hx
  have hlk : (K.map (· ^^^ x)).length = 64 := by rw [List.length_map, hK]
  have hl1 : ([] : Bs).length + (K.map (· ^^^ x)).length ≤ 1099511627776 := by
    have : ([] : Bs).length = 0 := rfl
    omega
  have hl2 : (K.map (· ^^^ x)).length + m.length ≤ 1099511627776 := by omega
  have hl3 : (K.map (· ^^^ x) ++ m).length ≤ 549755813888 := by rw [List.length_append]; omega
  have HLEN1 := Lib.hid hl1
  have HLEN2 := Lib.hid hl2
  have HLEN3 := Lib.hid hl3
  clear hlk hl1 hl2 hl3 hv0 ho hx
  go_enter Tryd.func39, Tryd.ntmps39
  go_wp2_with (first
    | (refine wpList_load_blk rfl 65 (.tmp 1) rfl po 0 rfl _ _ _ HO.out (RB K) (List.take_of_length_le (Nat.le_refl _)) _ Tryd.underlying65 rfl (info_RB K hK) ?_)
    | (refine wpList_store_upd rfl 65 (.tmp 5) (.tmp 7) rfl (w.heap.size + 1) 0 (.agg (RB K)) rfl rfl _ zb64 (heap_new2 w _ _) (info_RB K hK) (Nat.le_of_eq ((Nat.zero_add _).trans ((size_RB K).trans hK))) (one_RB K) rfl ?_; intro w2 hu2; rw [show put zb64 0 (Value.agg (RB K)).cells = RB K from put_whole _ _ ((size_RB K).trans hK).symm] at hu2; have hP0 := Lib.hid (pd_start (K := K) HX.out hu2); clear hu2))
  clear HO HX
  go_loopg [8] 64 (fun g i wr => ∃ k : Nat, k + g = 64 ∧ i = .int .i64 k ∧ PdAt w K x px k wr)
  case atStart => exact ⟨0, rfl, rfl, hP0.out⟩
  case round =>
    obtain ⟨k, hk, rfl, hP⟩ := hrel
    clear hP0
    by_cases hlt : k < 64
    · have c0 := hP.cell (by omega)
      have c1 := hP.xb
      have HP := Lib.hid hP
      generalize hb0 : K.getD k 0 = b0 at c0
      have HB0 := Lib.hid hb0
      clear hP hb0
      go_upto_region 5 with fail
      refine wp_region_quiet_tail 6 (fun w' => ∃ n, w' = wr.drewN n) ⟨1, rfl⟩ (by kernel_rfl) (by kernel_rfl) ?_
      simp only [List.take_succ_cons, List.take_zero, List.drop_succ_cons, List.drop_zero]
      repeat (go_big_quiet_step (fail))
      refine wpQuiet_nil ?_
      intro _ hw'
      obtain ⟨nq, hw''⟩ := hw'
      subst hw''
      refine wpList_store_upd rfl 5 _ _ rfl (w.heap.size + 1) k (bv (b0 ^^^ x)) rfl (congrArg (Value.int .u8) (u8_xor b0 x)) _ _ (HP.out.drewN _).k0 info_u8 ?_ (one_bv _) rfl ?_
      rotate_right
      · intro w2 hu2
        have HN := Lib.hid ((HP.out.drewN _).step (by omega) (by rw [HB0.out]; exact hu2))
        clear hu2 HP
        go_wp2_with fail
        go_roundg (gk - 1)
        case measure => omega
        case rel => exact ⟨k + 1, by omega, by go_num, HN.out⟩
      · rw [size_RB, length_mixed, hK]; exact (by omega : k + 1 ≤ 64)
    · obtain rfl : k = 64 := by omega
      have HP := Lib.hid hP
      clear hP hlt hk
      go_upto_region 7 with fail
      refine wp_region_lex Every [0, 2, 4, 5, 6] [] [] (by kernel_rfl) (by kernel_rfl) (fun _ => trivial) ?_
      simp only [List.zipIdx_cons, List.zipIdx_nil, Nat.zero_add, Nat.reduceAdd]
      refine lex_act rfl rfl (fun K' hK' => ?_)
      go_simp
      refine (new_calls _).mono ?_
      rintro e w4 ⟨rfl, hh4, hb4, -⟩
      refine hK' _ _ (ActLeft.keep rfl fun h => h) ?_
      clear hK' K'
      replace hh4 := Lib.hid (show HashAt w4 wr.heap.size [] from hh4)
      replace hb4 := Lib.hid (below_drew hb4)
      refine lex_blind 1 (by kernel_rfl) ?_
      simp only [List.take_succ_cons, List.take_zero, List.drop_succ_cons, List.drop_zero, List.map_cons, List.map_nil, Act.put, List.setIfInBounds_toArray, List.set_cons_succ, List.set_cons_zero]
      repeat (go_big_quiet_step (fail))
      refine wpQuiet_nil ?_
      refine lex_act rfl rfl (fun K' hK' => ?_)
      go_simp
      refine (write_calls wr.heap.size [] (K.map (· ^^^ x)) (.slice (some ⟨w.heap.size + 1, 0, none⟩) 64 64) w4 (HP.out.tab ht hb4.out) hh4.out (HP.out.krd hK hb4.out) (HP.out.two ht) HLEN1.out).mono ?_
      rintro e w5 ⟨rfl, hh5, hk5⟩
      rw [List.nil_append] at hh5
      have h5 := Lib.hid (HP.out.write ht hK hb4.out hh4.out hh5 hk5)
      clear hh5 hk5
      refine hK' _ _ (ActLeft.keep rfl fun h => h) ?_
      clear hK' K'
      refine lex_blind 1 (by kernel_rfl) ?_
      simp only [List.take_succ_cons, List.take_zero, List.drop_succ_cons, List.drop_zero, List.map_cons, List.map_nil, Act.put, List.setIfInBounds_toArray, List.set_cons_succ, List.set_cons_zero]
      repeat (go_big_quiet_step (fail))
      refine wpQuiet_nil ?_
      refine lex_act rfl rfl (fun K' hK' => ?_)
      go_simp
      refine (write_calls wr.heap.size (K.map (· ^^^ x)) m _ w5 h5.out.tab h5.out.hash (h5.out.rd hv.out) h5.out.two HLEN2.out).mono ?_
      rintro e w6 ⟨rfl, hh6, hk6⟩
      have h6 := Lib.hid (h5.out.write hh6 hk6)
      clear hh6 hk6
      refine hK' _ _ (ActLeft.keep rfl fun h => h) ?_
      clear hK' K'
      refine lex_act rfl rfl (fun K' hK' => ?_)
      go_simp
      refine (sum_calls' wr.heap.size (K.map (· ^^^ x) ++ m) w6 h6.out.tab h6.out.hash HLEN3.out).mono ?_
      rintro e w7 ⟨rfl, hb7⟩
      have h7 := Lib.hid (h6.out.call hb7)
      clear hb7
      refine hK' _ _ (ActLeft.keep rfl fun h => h) ?_
      clear hK' K'
      refine lex_act rfl rfl (fun K' hK' => ?_)
      refine wp_store_upd 24 (.tmp 4) (.tmp 23) rfl w.heap.size 0 (.agg (A32 (sha (K.map (· ^^^ x) ++ m)))) rfl rfl _ _ h7.out.res (info_A32 _) (le_A32 _) (one_A32 _) rfl ?_
      intro w8 hu8
      rw [put_A32] at hu8
      replace hu8 := Lib.hid hu8
      refine hK' _ _ (ActLeft.keep rfl fun h => h) ?_
      clear hK' K'
      refine lex_nil ?_
      go_wp2_with fail
      refine bodyPost_ret (ret_row (P := Tryd.prog) rfl _ w.heap.size _ (A32 (sha (K.map (· ^^^ x) ++ m))) _ _ rfl hu8.out.here Tryd.underlying24 rfl (info_A32 _)) rfl ⟨rfl, ?_⟩
      exact h7.out.below.trans (hu8.out.below (Nat.le_refl _))
end Go.Proofs.YtlgaikknodoilaaDoor.Sh
