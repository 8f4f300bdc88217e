/-
  Contract of fold.letters.
-/
import Derived.Test.YtdcpmnkebhilpaaGreatDoorA
import Derived.Deep.Light
namespace Go.Proofs.YtdcpmnkebhilpaaGreatDoor
open Go.RowKit
theorem ret_str {a b : List UInt8} (h : a = b) : Ending.returned (.string ⟨a.toArray⟩) = .returned (.string ⟨b.toArray⟩) := by rw [h]
def smallB (b : Int) : Bool := decide (160 ≤ b ∧ b ≤ 190)
def lettersPT (b : Int) : List UInt8 :=
  if (b == 128) = true then [65] else if (b == 129) = true then [65] else if (b == 130) = true then [65] else if (b == 131) = true then [65] else if (b == 133) = true then [65] else if (b == 132) = true then [65, 69] else if (b == 134) = true then [65, 69] else if (b == 135) = true then [67] else if (b == 136) = true then [69] else if (b == 137) = true then [69] else if (b == 138) = true then [69] else if (b == 139) = true then [69] else if (b == 140) = true then [73] else if (b == 141) = true then [73] else if (b == 142) = true then [73] else if (b == 143) = true then [73] else if (b == 144) = true then [68] else if (b == 145) = true then [78] else if (b == 146) = true then [79] else if (b == 147) = true then [79] else if (b == 148) = true then [79] else if (b == 149) = true then [79] else if (b == 152) = true then [79] else if (b == 150) = true then [79, 69] else if (b == 153) = true then [85] else if (b == 154) = true then [85] else if (b == 155) = true then [85] else if (b == 156) = true then [85, 69] else if (b == 157) = true then [89] else if (b == 158) = true then [84, 72] else []
def lettersP (a b : Int) : List UInt8 :=
  if (a == 197) = true then (if (b == 146) = true then [79, 69] else if (b == 147) = true then [79, 69] else if (b == 160) = true then [83] else if (b == 161) = true then [83] else if (b == 189) = true then [90] else if (b == 190) = true then [90] else [])
  else if (a != 195) = true then [] else if (b == 159) = true then [83, 83] else if (b == 191) = true then [89] else if smallB b = true then lettersPT (b - 32) else lettersPT b
set_option maxHeartbeats 4000000 in
theorem letters_any (a b : Int) (w : World) (_ha : 0 ≤ a) (_ha' : a ≤ 255) (hb : 0 ≤ b) (hb' : b ≤ 255) :
    Calls Tryz.prog 90 #[.int .u8 a, .int .u8 b] w fun e w' => e = .returned (.string ⟨(lettersP a b).toArray⟩) ∧ w = w' := by
  go_enter Tryz.func90, Tryz.ntmps90
  go_wp2_with fail
  all_goals
    go_ret
    refine ⟨ret_str ?_, rfl⟩
    go_light
    clear hb hb'
    first | (simp [lettersP, lettersPT, *]; done) | ((have hr : smallB b = true := (by unfold smallB; simp; omega)); simp [lettersP, lettersPT, *]; done) | ((have hr : smallB b = false := (by unfold smallB; simp; omega)); simp [lettersP, lettersPT, *]; done)
end Go.Proofs.YtdcpmnkebhilpaaGreatDoor
