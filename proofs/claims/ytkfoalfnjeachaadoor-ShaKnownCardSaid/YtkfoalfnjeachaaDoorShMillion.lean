/- The digest of a million bytes 97. -/
import Derived.Test.YtkfoalfnjeachaaDoorShMilA
import Derived.Test.YtkfoalfnjeachaaDoorShMilB
import Derived.Test.YtkfoalfnjeachaaDoorShMilC
import Derived.Test.YtkfoalfnjeachaaDoorShMilD
namespace Go.Proofs.YtkfoalfnjeachaaDoor.Sh
open Go

theorem many0 : pk (many b64 first 0) = 47962653771679561900652889051773562940742041696833059450490514104358170316057 := pk_first
theorem many1 : pk (many b64 first 2000) = 65578057864983236246246586891994668272975820105629321241784507950329610640917 := step_many (n := 0) rfl many0 run0
theorem many2 : pk (many b64 first 4000) = 78344875190493705708919228143545261904129993841919609678429988595335206078607 := step_many (n := 2000) rfl many1 run1
theorem many3 : pk (many b64 first 6000) = 114703954237347181248628997069268832005165081172342538418126180717250995076493 := step_many (n := 4000) rfl many2 run2
theorem many4 : pk (many b64 first 8000) = 9856636086367768488073183545646347815096406282070487265557186192863359925204 := step_many (n := 6000) rfl many3 run3
theorem many5 : pk (many b64 first 10000) = 39964336288947510840601163150684384150230271264265038578731596604127462060820 := step_many (n := 8000) rfl many4 run4
theorem many6 : pk (many b64 first 12000) = 39148692148275837979393086841781765848146127398783073627970815462203003481382 := step_many (n := 10000) rfl many5 run5
theorem many7 : pk (many b64 first 14000) = 62595615403273148567004539884138327941523267843704654407190172050703120087608 := step_many (n := 12000) rfl many6 run6
theorem many8 : pk (many b64 first 15625) = 55568119529413663051333686199460222388430895494414611757230945412824783956793 := step_many (n := 14000) rfl many7 run7
def lastblock : Bs := [128, 0, 0, 0, 0, 0, 0, 0, 0, 0, 0, 0, 0, 0, 0, 0, 0, 0, 0, 0, 0, 0, 0, 0, 0, 0, 0, 0, 0, 0, 0, 0, 0, 0, 0, 0, 0, 0, 0, 0, 0, 0, 0, 0, 0, 0, 0, 0, 0, 0, 0, 0, 0, 0, 0, 0, 0, 0, 0, 0, 0, 122, 18, 0]
set_option maxRecDepth 100000 in
theorem padding_million : padding 1000000 = lastblock := by decide +kernel
def million : Bs := List.replicate 1000000 97
theorem length_million : million.length = 1000000 := List.length_replicate ..
def vlast : V8 := ⟨3452399196#32, 2568289170#32, 2174863330#32, 2228698727#32, 4051737160#32, 2761367566#32, 74267084#32, 3339791568#32⟩
theorem last_run : nblock lastblock 55568119529413663051333686199460222388430895494414611757230945412824783956793 = pk vlast := by kernel_rfl
theorem absorb_million (k n : Nat) (h : 64 * k ≤ n) : absorb (List.replicate n 97 ++ lastblock) k = many b64 first k := by
  rw [absorb_append _ _ _ (by rw [List.length_replicate]; exact h), absorb_alike 97 n k h, b64_eq]
theorem state_alike (n k : Nat) (hk : n = 64 * k) (hp : padding n = lastblock) (h : pk (many b64 first k) = 55568119529413663051333686199460222388430895494414611757230945412824783956793) : state (padded (List.replicate n 97)) = vlast := by
  have hl : (List.replicate n (97 : UInt8)).length = n := List.length_replicate ..
  have e1 : padded (List.replicate n 97) = List.replicate n 97 ++ lastblock := by rw [padded, hl, hp]
  have hll : lastblock.length = 64 := rfl
  have e2 : (padded (List.replicate n 97)).length / 64 = k + 1 := by rw [e1, List.length_append, hl, hll]; omega
  have e3 := absorb_million k n (by omega)
  have e4 : ((List.replicate n 97 ++ lastblock).drop (64 * k)).take 64 = lastblock := by
    rw [List.drop_append_of_le_length (by rw [hl]; omega), List.drop_of_length_le (by rw [hl]; omega), List.nil_append]
    rfl
  rw [state, e2, e1, absorb, e3, e4]
  apply pk_inj
  rw [← nblock_eq, h]
  exact last_run
theorem state_million : state (padded million) = vlast := state_alike 1000000 15625 rfl padding_million many8
def digM : Bs := [205, 199, 110, 92, 153, 20, 251, 146, 129, 161, 199, 226, 132, 215, 62, 103, 241, 128, 154, 72, 164, 151, 32, 14, 4, 109, 57, 204, 199, 17, 44, 208]
theorem sha_million : sha million = digM := by
  rw [sha, state_million]
  decide +kernel
def digH : Bs := [99, 100, 99, 55, 54, 101, 53, 99, 57, 57, 49, 52, 102, 98, 57, 50, 56, 49, 97, 49, 99, 55, 101, 50, 56, 52, 100, 55, 51, 101, 54, 55, 102, 49, 56, 48, 57, 97, 52, 56, 97, 52, 57, 55, 50, 48, 48, 101, 48, 52, 54, 100, 51, 57, 99, 99, 99, 55, 49, 49, 50, 99, 100, 48]
theorem digH_eq : hx (sha million) 32 = ⟨digH.toArray⟩ := by
  rw [sha_million]
  decide +kernel
end Go.Proofs.YtkfoalfnjeachaaDoor.Sh
