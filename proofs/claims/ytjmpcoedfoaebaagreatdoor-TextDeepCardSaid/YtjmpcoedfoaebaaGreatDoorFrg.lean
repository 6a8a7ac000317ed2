/- filter.right at every kind; filter.Check without a premise. -/
import Derived.Test.YtjmpcoedfoaebaaGreatDoorFrb
import Derived.Test.YtjmpcoedfoaebaaGreatDoorFrc
import Derived.Test.YtjmpcoedfoaebaaGreatDoorFrde
import Derived.Test.YtjmpcoedfoaebaaGreatDoorFrf
import Derived.Test.YtjmpcoedfoaebaaGreatDoorFph
open Go Go.RowKit
namespace Go.Proofs.YtjmpcoedfoaebaaGreatDoor

theorem right_ok : RightOk := by
  intro B H it a1 n1 c1 a2 c2 w hH hT hml hnl hlg hE
  by_cases h : it.kind < 0 ∨ 9 < it.kind
  · exact right_else it a1 n1 c1 a2 c2 w h
  · have hc : it.kind = 0 ∨ it.kind = 1 ∨ it.kind = 2 ∨ it.kind = 3 ∨ it.kind = 4 ∨ it.kind = 5 ∨ it.kind = 6 ∨ it.kind = 7 ∨ it.kind = 8 ∨ it.kind = 9 := by omega
    rcases hc with hk | hk | hk | hk | hk | hk | hk | hk | hk | hk
    · exact right_k0 B H it a1 n1 c1 a2 c2 w hk hH hT hml hnl hlg hE
    · exact right_k1 B H it a1 n1 c1 a2 c2 w hk hH hT hml hnl hlg hE
    · exact right_k2 B H it a1 n1 c1 a2 c2 w hk hH hT hml hnl hlg hE
    · exact right_k3 B H it a1 n1 c1 a2 c2 w hk hH hT hml hnl hlg hE
    · exact right_k4 B H it a1 n1 c1 a2 c2 w hk hH hT hml hnl hlg hE
    · exact right_k5 B H it a1 n1 c1 a2 c2 w hk hH hT hml hnl hlg hE
    · exact right_k6 B H it a1 n1 c1 a2 c2 w hk hH hT hml hnl hlg hE
    · exact right_k7 B H it a1 n1 c1 a2 c2 w hk hH hT hml hnl hlg hE
    · exact right_k8 B H it a1 n1 c1 a2 c2 w hk hH hT hml hnl hlg hE
    · exact right_k9 B H it a1 n1 c1 a2 c2 w hk hH hT hml hnl hlg hE
theorem check_calls (B H : Nat) (g : Flt) (vs : List Value) (w : World) (hF : FltD w H g vs) (hE : Env B w) (hH : H ≤ w.heap.size) : Calls Tryz.prog 24 #[.agg vs.toArray] w (ChR w (checkR g)) := check_any right_ok B H g vs w hF hE hH
end Go.Proofs.YtjmpcoedfoaebaaGreatDoor
