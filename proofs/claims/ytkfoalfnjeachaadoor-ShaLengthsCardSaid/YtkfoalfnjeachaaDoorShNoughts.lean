/- Noughts of unlike lengths, up to 200, have unlike digests. -/
import Derived.Test.YtkfoalfnjeachaaDoorShFast
namespace Go.Proofs.YtkfoalfnjeachaaDoor.Sh
/-- A digest's first four bytes. -/
def fp (l : Bs) : Nat := (((l.getD 0 0).toNat * 256 + (l.getD 1 0).toNat) * 256 + (l.getD 2 0).toNat) * 256 + (l.getD 3 0).toNat
theorem fp_out (v : V8) : fp (out v) = v.a.toNat := by
  have h := v.a.isLt
  have e : ∀ i, i < 4 → ((out v).getD i 0).toNat = v.a.toNat / 2 ^ (24 - 8 * i) % 256 := by
    intro i hi
    unfold out
    rw [List.getD_eq_getElem?_getD, List.getElem?_map, List.getElem?_range (by omega)]
    show (byteOf (v.list.getD (i / 4) 0) i).toNat = _
    have h0 : i / 4 = 0 := by omega
    have h1 : i % 4 = i := by omega
    unfold byteOf
    rw [h0, h1, UInt8.toNat_ofNat', Nat.shiftRight_eq_div_pow]
    rfl
  unfold fp
  rw [e 0 (by omega), e 1 (by omega), e 2 (by omega), e 3 (by omega)]
  simp only [Nat.mul_zero, Nat.sub_zero, Nat.mul_one, Nat.reduceMul, Nat.reduceSub, Nat.reducePow, Nat.div_one]
  omega
def top (S : Nat) : Nat := Nat.div (Nat.div (Nat.div (Nat.div (Nat.div (Nat.div (Nat.div S 4294967296) 4294967296) 4294967296) 4294967296) 4294967296) 4294967296) 4294967296
theorem top_pk (v : V8) : top (pk v) = v.a.toNat := by
  have hb := v.b.isLt
  have hc := v.c.isLt
  have hd := v.d.isLt
  have he := v.e.isLt
  have hf := v.f.isLt
  have hg := v.g.isLt
  have hh := v.h.isLt
  unfold top pk pack
  simp only [pack_div _ _ hh, pack_div _ _ hg, pack_div _ _ hf, pack_div _ _ he, pack_div _ _ hd, pack_div _ _ hc, pack_div _ _ hb]

noncomputable def nfp (m : Bs) : Nat := top (nabsorb (padded m) ((padded m).length / 64))
theorem nfp_eq (m : Bs) : nfp m = fp (sha m) := by
  unfold nfp sha
  rw [nabsorb_eq, top_pk, fp_out]
  rfl

def fps : List Nat := [3820012610, 1848904604, 2527237842, 1889435848, 3745472920, 2287292554, 2968939228, 2205713864, 2941612277, 1047558141, 30689455, 1907802581, 367819760, 3712402414, 3891063740, 1394802383, 927402239, 176689432, 1624941477, 3606930165, 3729246642, 3372364376, 1783133661, 22181350, 2643496655, 1628597729, 1704801994, 3930696351, 987626260, 300167618, 108602477, 4245208725, 1718123181, 2140970545, 3943967500, 223688161, 1840668629, 2871306591, 1982530102, 2495684307, 741658141, 2652321476, 155994417, 2241278649, 2239077176, 2316312675, 2274308855, 336517701, 397440543, 2022145960, 3425142497, 2391794814, 2035665709, 893376040, 3932527836, 41391206, 3565255333, 1705077943, 1723115698, 3718538892, 1573657432, 3336727614, 515582940, 3346153377, 4121296194, 2563654366, 4022010807, 467841945, 391228434, 3439706664, 2197618002, 134601948, 2202693787, 2622944394, 3498052817, 913598452, 4072723781, 123036143, 1431467147, 1097342864, 1534047630, 1735968711, 281820216, 8432119, 1340759658, 1782223617, 921197452, 1772410763, 284095109, 2696905651, 2559183305, 664136851, 1655785575, 3687828599, 3548305469, 2235721748, 782871441, 325964199, 807882522, 1261011032, 3439387282, 3767392662, 3290016044, 927229301, 972259213, 1379680582, 886822591, 2734464934, 1997750083, 3045754337, 4063465816, 616112379, 3053300600, 2501581973, 2150350609, 600663941, 1532066130, 4276343713, 24818871, 4128682197, 1860018031, 3625098724, 292644460, 1083867011, 2072955101, 1121360345, 3955522838, 366667159, 947010094, 746611101, 3847904295, 3546802366, 291220756, 1476381130, 3890723452, 1101636653, 3070698517, 1251182927, 1214939666, 1043699442, 604265488, 3693093313, 3085984948, 1712000982, 2177241587, 3280933524, 1442852139, 600202682, 991479180, 1443049353, 495145355, 1024674892, 2242749822, 4050009294, 4178694156, 816272703, 1505726609, 1589722449, 381865141, 3616185035, 3012794248, 2668558037, 2067508820, 2114831265, 1260580456, 715259243, 2159400996, 219280420, 3821186869, 1616725926, 3497779160, 1103592471, 1492261038, 868439618, 3937310890, 1427432262, 2261962587, 2374299434, 1760763262, 1577500585, 280143464, 3676591266, 182527153, 4048019392, 3625712464, 3132976998, 3044855468, 2533948684, 3816612784, 116003214, 132946937, 1354080417, 1569321046, 3844497973, 1544092804, 530468711, 3640975857, 2363834279, 2800399362, 1333037101, 1838961886]
noncomputable def okTo (l : List Nat) : Nat → Bool := List.rec (motive := fun _ => Nat → Bool) (fun _ => true) (fun x _ ih n => (Nat.beq (nfp (List.replicate n 0)) x).and (ih (Nat.succ n))) l
theorem okTo_get : ∀ (l : List Nat) (n : Nat), okTo l n = true → ∀ i, i < l.length → l[i]? = some (fp (sha (List.replicate (n + i) 0)))
  | [], _, _, i, hi => by simp at hi
  | x :: l, n, h, i, hi => by
    have h' : (Nat.beq (nfp (List.replicate n 0)) x).and (okTo l (Nat.succ n)) = true := h
    obtain ⟨h1, h2⟩ := (Bool.and_eq_true_iff).1 h'
    cases i with
    | zero =>
      have := Nat.eq_of_beq_eq_true h1
      rw [nfp_eq] at this
      rw [← this]; rfl
    | succ i =>
      have := okTo_get l (n + 1) h2 i (by simpa using hi)
      rw [show n + (i + 1) = n + 1 + i by omega, ← this]
      rfl
set_option maxRecDepth 1000000 in
theorem okTo_all : okTo fps 0 = true := by kernel_rfl

/-- No number of the list stands there twice. -/
noncomputable def apartB (l : List Nat) : Bool := List.rec (motive := fun _ => Bool) true (fun x t ih => (List.rec (motive := fun _ => Bool) true (fun y _ jh => (Nat.beq x y).not.and jh) t).and ih) l
noncomputable def noneOf (x : Nat) (l : List Nat) : Bool := List.rec (motive := fun _ => Bool) true (fun y _ jh => (Nat.beq x y).not.and jh) l
theorem noneOf_spec (x : Nat) : ∀ (l : List Nat), noneOf x l = true → x ∉ l
  | [], _ => by simp
  | y :: l, h => by
    have h' : (Nat.beq x y).not.and (noneOf x l) = true := h
    obtain ⟨h1, h2⟩ := (Bool.and_eq_true_iff).1 h'
    intro hm
    rcases List.mem_cons.1 hm with rfl | hm
    · rw [Nat.beq_refl] at h1; cases h1
    · exact noneOf_spec x l h2 hm
theorem apartB_spec : ∀ (l : List Nat), apartB l = true → l.Nodup
  | [], _ => List.nodup_nil
  | x :: l, h => by
    have h' : (noneOf x l).and (apartB l) = true := h
    obtain ⟨h1, h2⟩ := (Bool.and_eq_true_iff).1 h'
    exact List.nodup_cons.2 ⟨noneOf_spec x l h1, apartB_spec l h2⟩
set_option maxRecDepth 1000000 in
theorem fps_apart : apartB fps = true := by kernel_rfl

set_option maxRecDepth 100000 in
theorem fps_length : fps.length = 201 := by kernel_rfl
theorem unlike (n m : Nat) (hn : n < 201) (hm : m < 201) : (sha (List.replicate n 0) == sha (List.replicate m 0)) = ((n : Int) == (m : Int)) := by
  rw [Bool.eq_iff_iff, beq_iff_eq, beq_iff_eq]
  constructor
  · intro h
    have h1 := okTo_get fps 0 okTo_all n (by rw [fps_length]; exact hn)
    have h2 := okTo_get fps 0 okTo_all m (by rw [fps_length]; exact hm)
    rw [Nat.zero_add] at h1 h2
    have e : fps[n]? = fps[m]? := by rw [h1, h2, h]
    have := (List.getElem?_inj (by rw [fps_length]; exact hn) (apartB_spec fps fps_apart)).1 e
    omega
  · intro h
    have : n = m := by omega
    rw [this]
end Go.Proofs.YtkfoalfnjeachaaDoor.Sh
