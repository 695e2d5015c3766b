/- The contract of Derive. -/
import Derived.Test.YtlgaikknodoilaaDoorMaMany
import Derived.Test.YtlgaikknodoilaaDoorMaCont
import Derived.Test.YtlgaikknodoilaaDoorNuNum
import Derived.Laws.CopyOwn
namespace Go.Proofs.YtlgaikknodoilaaDoor.Sh
set_option linter.unusedVariables false
set_option linter.unusedSimpArgs false
open Go Go.RowKit

def A16 (l : Bs) : Array Value := (l.map bv).toArray
theorem size_A16 (l : Bs) : (A16 l).size = l.length := by simp [A16]
theorem info_a16 : (Tryd.prog.info? 41).map (·.size) = some 16 := by kernel_rfl
theorem info_A16 (l : Bs) (h : l.length = 16) : (Tryd.prog.info? 41).map (·.size) = some (A16 l).size := by rw [size_A16, h]; exact info_a16
theorem one_A16 (l : Bs) : (Value.agg (A16 l)).cells.all (·.oneCell') = true := by
  refine Array.all_eq_true_iff_forall_mem.2 fun x hx => ?_
  have hx : x ∈ l.map bv := by simpa [A16, Value.cells] using hx
  obtain ⟨y, _, rfl⟩ := List.mem_map.1 hx
  rfl
theorem ret_row2 {fn : Func} {p q : Tmp} {ty : TypeId} (h : fn.results = #[.cell p ty, .tmp q]) (tmps : Array Value) (w : World) (g : Nat) (t : TypeId) (cs : Array Value) (fr : Nat × Nat) (d : TypeDesc) (u : Value)
    (hp : tmps.getD p undef = .pointer (some ⟨g, 0, none⟩)) (hq : tmps.getD q undef = u) (hg : w.heap[g]? = some (.cells cs t fr)) (hu : Tryd.prog.underlying ty = some d) (hd : d.isRow = true) (hi : (Tryd.prog.info? ty).map (·.size) = some cs.size) :
    (results fn tmps).run Tryd.prog w = .ok (.tuple #[.agg cs, u]) w := by
  have hp' : tmps[p]?.getD undef = .pointer (some ⟨g, 0, none⟩) := by simpa using hp
  have hq' : tmps[q]?.getD undef = u := by simpa using hq
  simp [results, h, hp', hq', asAddr, run_loadVar_row w g t ty cs fr d hg hu (by cases d <;> first | rfl | exact hd) hi]
/-- What is summed up for a label and a number. -/
def told (s : Bs) (n : Nat) : Bs := s ++ be 1 0 ++ be 8 n
theorem length_told (s : Bs) (n : Nat) : (told s n).length = s.length + 9 := by simp [told, length_be]
def z16 : Array Value := #[.int .u8 0, .int .u8 0, .int .u8 0, .int .u8 0, .int .u8 0, .int .u8 0, .int .u8 0, .int .u8 0, .int .u8 0, .int .u8 0, .int .u8 0, .int .u8 0, .int .u8 0, .int .u8 0, .int .u8 0, .int .u8 0]
theorem z16_eq : z16 = A16 (List.replicate 16 0) := rfl
theorem num1_calls (w0 : World) (p : Nat) (c : Bs) (w : World) (ht : Tab w0) (h : WrAt w0 p c w) (hlen : c.length + 1 ≤ 1000000) :
    Calls Tryd.prog 33 #[.pointer (some ⟨p, 0, none⟩), .int .i64 1, .int .i64 0] w fun e w' => e = .returned (.pointer (some ⟨p, 0, none⟩)) ∧ WrAt w0 p (c ++ be 1 0) w' :=
  num_calls w0 p c 1 0 (.inl rfl) (by decide) (by decide) w ht h hlen
theorem lt64 (n : Nat) (hn : n ≤ 9007199254740991) : n < 2 ^ (8 * 8) := Nat.lt_of_le_of_lt hn (by decide)
theorem num8_calls (w0 : World) (p : Nat) (c : Bs) (n : Nat) (hn : n ≤ 9007199254740991) (w : World) (ht : Tab w0) (h : WrAt w0 p c w) (hlen : c.length + 8 ≤ 1000000) :
    Calls Tryd.prog 33 #[.pointer (some ⟨p, 0, none⟩), .int .i64 8, .int .i64 (n : Int)] w fun e w' => e = .returned (.pointer (some ⟨p, 0, none⟩)) ∧ WrAt w0 p (c ++ be 8 n) w' :=
  num_calls w0 p c 8 n (.inr (.inr (.inr rfl))) (lt64 n hn) hn w ht h hlen
def WD (w : World) : World := w.alloc (.cells z16 41)
theorem WD_tab {w : World} (ht : Tab w) : Tab (WD w) := ht.alloc _
theorem WD_res (w : World) : (WD w).heap[w.heap.size]? = some (.cells z16 41 (0, 0)) := heap_new w _
theorem WD_size (w : World) : (WD w).heap.size = w.heap.size + 1 := by simp [WD]
theorem WD_below (w : World) : Below w.heap.size w (WD w) := (Below.refl _ _).alloc (Nat.le_refl _) _

theorem copied16 {w : World} {g : Nat} {l : Bs} (hl : l.length = 16) (h : w.heap[g]? = some (.cells (splice ((List.replicate 16 (0 : UInt8)).map bv) 0 (l.map bv)).toArray 41 (0, 0))) :
    w.heap[g]? = some (.cells (A16 l) 41 (0, 0)) := by
  rw [h]
  congr 2
  unfold A16 splice
  rw [List.take_zero, List.nil_append, List.length_map, Nat.zero_add, hl, ← List.map_drop, List.drop_of_length_le (by rw [List.length_replicate]; exact Nat.le_refl _), List.map_nil, List.append_nil]
theorem put_A16 (l : Bs) (h : l.length = 16) : put (A16 l) 0 (Value.agg (A16 l)).cells = A16 l := put_whole _ _ rfl
theorem src_A32 {w : World} {q : Nat} {d : Bs} (h : w.heap[q]? = some (.cells (A32 d) 24 (0, 0))) : ∀ j v, ((d.take 16).map bv)[j]? = some v → w.cell? ((⟨q, 0, none⟩ : Addr).add j) = some v := fun j v hj => by
  rw [Addr.add_mid, Nat.zero_add, cell_of_row w q j _ _ _ h]
  rw [List.map_take, List.getElem?_take] at hj
  split at hj
  · unfold A32; rw [List.getElem?_toArray]; exact hj
  · cases hj

set_option maxRecDepth 4000 in
set_option maxHeartbeats 1000000 in
theorem derive_ok (kv : Value) (key : Bs) (s : ByteArray) (n : Nat) (hs0 : ∀ x ∈ s.data.toList, x ≠ 0) (hn : n ≤ 9007199254740991) (hsz : s.size ≤ 500000) (w : World) (ht : Tab w) (hk0 : RD w.heap.size w kv key) (hlk : key.length ≤ 549755813888) :
    Calls Tryd.prog 20 #[kv, .string s, .int .i64 (n : Int)] w fun e w' => e = .returned (.tuple #[.agg (A16 ((hmac key (told s.data.toList n)).take 16)), .int .i64 0]) ∧ Below w.heap.size w w' := by
  have hnone : decide (0 ≤ Lib.indexByte s.data.toList 0) = false := by
    have := (indexByte_none s.data.toList).2 hs0
    rw [decide_eq_false_iff_not]; omega
  have HNONE := Lib.hid hnone
  have hn0 : (0 : Int) ≤ (n : Int) := by omega
  have hn1 : (n : Int) ≤ 9007199254740991 := by omega
  have hsl : s.data.toList.length = s.size := by rw [Array.length_toList]; rfl
  have HN := Lib.hid hn
  have HT := Lib.hid (WD_tab ht)
  have HL0 := Lib.hid (LI.start (WD_tab ht))
  have HK := Lib.hid (show RD (WD w).heap.size (WD w) kv key from (hk0.below (WD_below w)).mono (WD_below w).size)
  have HLK := Lib.hid hlk
  have hsz2 : s.size ≤ 140737488355328 := by omega
  have hl1 : ([] : Bs).length + s.data.toList.length ≤ 1000000 := by
    have : ([] : Bs).length = 0 := rfl
    omega
  have hl2 : (s.data.toList).length + 1 ≤ 1000000 := by omega
  have hl3 : (s.data.toList ++ be 1 0).length + 8 ≤ 1000000 := by rw [List.length_append, length_be]; omega
  have hl4 : (told s.data.toList n).length ≤ 1000000 := by rw [length_told]; omega
  have hl5 : (told s.data.toList n).length ≤ 500000000000 := by rw [length_told]; omega
  have HSZ2 := Lib.hid hsz2
  have HLL1 := Lib.hid hl1
  have HLL2 := Lib.hid hl2
  have HLL3 := Lib.hid hl3
  have HLL4 := Lib.hid hl4
  have HLL5 := Lib.hid hl5
  clear hnone hk0 hlk hsz2 hl1 hl2 hl3 hl4 hl5 hsl hs0 hn hsz
  go_enter Tryd.func20, Tryd.ntmps20
  go_upto_region 3 with (go_at_call 30; refine (contains_calls s _).mono ?_; rintro e w1 ⟨rfl, rfl⟩; rw [HNONE.out])
  go_upto_region 4 with (first
    | (go_at_call 31; refine (nwrite_calls (WD w) (WD w) HL0.out).mono ?_; rintro e w1 ⟨p, rfl, hw1, -⟩; replace hw1 := Lib.hid hw1)
    | (refine wpList_str_bytes Tryd.underlying9 Tryd.underlying22 Tryd.underlying5 rfl (.tmp 23) rfl s rfl HSZ2.out ?_; intro v2 w2 hr2 hb2; replace hw1 := Lib.hid (hw1.out.call hb2); replace hr2 := Lib.hid hr2; clear hb2)
    | (go_at_call 32; refine (raw_calls (WD w) p [] s.data.toList v2 w2 HT.out hw1.out hr2.out HLL1.out).mono ?_; rintro e w3 ⟨rfl, hw3⟩; rw [List.nil_append] at hw3; replace hw3 := Lib.hid hw3)
    | (go_at_call 33; first
      | (refine (num8_calls (WD w) p (s.data.toList ++ be 1 0) n HN.out w4 HT.out hw4.out HLL3.out).mono ?_; rintro e w5 ⟨rfl, hw5⟩; replace hw5 := Lib.hid hw5)
      | (refine (num1_calls (WD w) p s.data.toList w3 HT.out hw3.out HLL2.out).mono ?_; rintro e w4 ⟨rfl, hw4⟩; replace hw4 := Lib.hid hw4))
    | (go_at_call 34; refine (bytes_calls (WD w) p (told s.data.toList n) w5 hw5.out HLL4.out).mono ?_; rintro e w6 ⟨v6, rfl, ho6, hb6⟩; have hl6 := Lib.hid (hw5.out.li.call hb6); have hr6 := Lib.hid ho6.rd; clear ho6 hb6))
  clear hw1 hw3 hw4 hw5 hr2 HNONE
  go_upto_region 7 with (first
    | (go_at_call 10; refine (mac_L (WD w) kv v6 key (told s.data.toList n) w6 hl6.out (hl6.out.rd HK.out) hr6.out HLK.out HLL5.out).mono ?_; rintro e w7 ⟨rfl, hl7, -⟩; replace hl7 := Lib.hid hl7)
    | (refine wpList_store_upd rfl 24 (.tmp 9) (.tmp 38) rfl w7.heap.size 0 (.agg (A32 (hmac key (told s.data.toList n)))) rfl rfl _ z32 (heap_new w7 _) (info_A32h _ _) (le_A32h _ _) (one_A32 _) rfl ?_; intro w8 hu8; rw [put_A32h] at hu8; replace hu8 := Lib.hid hu8))
  have hd8 := Lib.hid (kd_start hl7.out hu8.out)
  generalize w7.heap.size = q at *
  have hl32 := length_hmac key (told s.data.toList n)
  generalize hDD : hmac key (told s.data.toList n) = D at *
  have HDD := Lib.hid hDD
  clear hDD
  have hres := Lib.hid (heap_below (WD_res w) hd8.out.li.bel (by rw [WD_size]; omega))
  have hbel8 : Hid (Below w.heap.size w w8) := Lib.hid ((WD_below w).trans (hd8.out.li.bel.mono (by rw [WD_size]; omega)))
  have ht16 : (D.take 16).length = 16 := by rw [List.length_take]; omega
  have H16 := Lib.hid ht16
  clear hl7 hu8 hl6 hr6 hl32 ht16
  refine wp_region_quiet_tail 2 (fun w' => ∃ n, w' = w8.drewN n) ⟨1, rfl⟩ (by kernel_rfl) (by kernel_rfl) ?_
  simp only [List.take_succ_cons, List.take_zero, List.drop_succ_cons, List.drop_zero]
  repeat (go_big_quiet_step (fail))
  refine wpQuiet_nil ?_
  intro _ hw'
  obtain ⟨nq, hw''⟩ := hw'
  subst hw''
  refine wpList_copy_splice rfl (.tmp 39) (.tmp 40) 22 22 rfl 5 Tryd.underlying22 info_u8 (some ⟨w.heap.size, 0, none⟩) (some ⟨q, 0, none⟩) 16 16 32 32 rfl rfl w.heap.size 0 ((List.replicate 16 (0 : UInt8)).map bv) 41 (by exact hres.out) ((D.take 16).map bv)
    (by rw [List.length_map, H16.out]; rfl) (fun _ => ⟨rfl, _, rfl, src_A32 (w := w8.drewN nq) hd8.out.row⟩) (by rw [List.length_map, List.length_map, H16.out, List.length_replicate]; exact Nat.le_refl _) (one_bytes _) w.heap.size w (hbel8.out.trans (c := w8.drewN nq) ⟨rfl, rfl, rfl, Nat.le_refl _, fun _ _ => rfl⟩) (Nat.le_refl _) ?_
  intro w9 hsp hb9
  have HR9 := Lib.hid (copied16 H16.out hsp.out)
  replace hb9 := Lib.hid hb9
  clear hsp hres hbel8 hd8
  go_wp2_with (first
    | (refine wpList_load_blk rfl 41 (.tmp 6) rfl w.heap.size 0 rfl _ _ _ HR9.out (A16 (D.take 16)) (List.take_of_length_le (Nat.le_refl _)) _ Tryd.underlying41 rfl (info_A16 _ H16.out) ?_)
    | (refine wpList_store_upd rfl 41 (.tmp 6) (.tmp 42) rfl w.heap.size 0 (.agg (A16 (D.take 16))) rfl rfl _ _ HR9.out (info_A16 _ H16.out) (Nat.le_of_eq (Nat.zero_add _)) (one_A16 _) rfl ?_; intro w10 hu10; rw [put_A16 _ H16.out] at hu10; replace hu10 := Lib.hid hu10))
  refine bodyPost_ret (ret_row2 rfl _ _ w.heap.size _ (A16 (D.take 16)) _ _ (.int .i64 0) rfl rfl hu10.out.here Tryd.underlying41 rfl (info_A16 _ H16.out)) rfl ⟨by rw [HDD.out], ?_⟩
  exact hb9.out.trans (hu10.out.below (Nat.le_refl _))
end Go.Proofs.YtlgaikknodoilaaDoor.Sh
