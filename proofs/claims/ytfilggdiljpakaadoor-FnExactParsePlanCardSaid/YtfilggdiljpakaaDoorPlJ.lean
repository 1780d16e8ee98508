/-
  Two plans joined: the program's and the reference's.
-/
import Derived.Test.YtfilggdiljpakaaDoorConSt
import Derived.Test.YtfilggdiljpakaaDoorAppL
import Derived.Test.YtfilggdiljpakaaDoorPoolL
import Derived.Deep.RegionHeldLaw
import Derived.Deep.RegionHeld3
namespace Go.Proofs.YtfilggdiljpakaaDoor
open Go.RowKit

def joinR (b p : Int) (l : List Str) (b' p' : Int) (l' : List Str) : PlR :=
  if planOk b p l && planOk b' p' l' && decide (b = b') && decide (p = p') && planOk b p (l ++ l') then ⟨b, p, l ++ l', true⟩ else noPlR
theorem planOk_len {b p : Int} {l : List Str} (h : planOk b p l = true) : l.length ≤ 60 := (planOk_parts h).2.2.1.2
theorem joinR_len {b p b' p' : Int} {l l' : List Str} : (joinR b p l b' p' l').l.length ≤ 1048576 := by
  unfold joinR
  split
  · rename_i h
    simp only [Bool.and_eq_true] at h
    have := planOk_len h.2
    show (l ++ l').length ≤ _
    omega
  · simp [noPlR]
end Go.Proofs.YtfilggdiljpakaaDoor
