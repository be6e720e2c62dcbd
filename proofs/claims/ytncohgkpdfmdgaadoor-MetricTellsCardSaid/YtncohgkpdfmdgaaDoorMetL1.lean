/- The walk of MetricTells. -/
import Derived.Test.YtncohgkpdfmdgaaDoorMetB
namespace Go.Proofs.YtncohgkpdfmdgaaDoor
open Go.RowKit Go.Shelf

set_option maxRecDepth 100000 in
set_option maxHeartbeats 4000000 in
theorem MetricTells_any (v : Int) (s : ByteArray) (w : World) (hT : Tabs w) (z1 : -9223372036854775808 ≤ v) (z2 : v ≤ 9223372036854775807) :
    Calls Tryd.prog 3 #[.int .i64 v, .string s] w fun e w' => e = .returned (.bool true) ∧ Below w.heap.size w w' := by
  have cW := hid (fun W (hB : Below w.heap.size w W) => wakes10 W (hT.below hB))
  by_cases h0 : s.size ≤ 2000
  · have k1 : (s.size : Int) ≤ 2000 := by omega
    have c3 := MText_any s w (by omega) hT
    have c4 := hid (fun W => RMText_any s W (by omega))
    have c1 := Sign_any v w z1 z2
    have c2 := RSign_any v w z1 z2
    clear hT
    go_enter Tryd.func3, Tryd.ntmps3
    go_wp2_with (fail)
    refine c1.mono ?_
    rintro e w' ⟨rfl, rfl⟩
    go_wp2_with (fail)
    refine c2.mono ?_
    rintro e w' ⟨rfl, rfl⟩
    go_wp2_with (fail)
    refine c3.mono ?_
    rintro e w1 ⟨rfl, b1⟩
    clear c1 c2 c3
    go_wp2_with (fail)
    refine (Hid.out c4 w1).mono ?_
    rintro e w2 ⟨rfl, b2⟩
    have B2 := b1.trans (b2.mono b1.size)
    clear b1 b2
    go_wp2_with (fail)
    refine (Hid.out cW _ B2).mono ?_
    rintro e w3 ⟨rfl, b3⟩
    have B3 := B2.trans (b3.mono B2.size)
    go_wp2
    go_ret
    exact ⟨rfl, B3⟩
  · have k1 : 2000 < (s.size : Int) := by omega
    clear hT
    go_enter Tryd.func3, Tryd.ntmps3
    go_wp2_with (fail)
    refine (Hid.out cW _ (Below.refl _ w)).mono ?_
    rintro e w1 ⟨rfl, hB⟩
    go_wp2
    go_ret
    exact ⟨rfl, hB⟩
end Go.Proofs.YtncohgkpdfmdgaaDoor
