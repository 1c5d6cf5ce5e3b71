/- Layer 5's law: speaks. -/
import Derived.Test.YtidhblpcaccchaaView4
import Derived.Test.YtidhblpcaccchaaView5
import Derived.Test.YtidhblpcaccchaaView6
namespace Go.Proofs.Ytidhblpcaccchaa
open Go.RowKit
namespace View

set_option maxRecDepth 100000 in
set_option maxHeartbeats 2000000 in
theorem speaks (w : World) : Calls Try.prog 14 #[] w fun e w' => e = .returned (.bool true) ∧ Below w.heap.size w w' := by
  have hap : applyV (firstV 3) 2 2 1 0 = (⟨2, [⟨1, 1, true⟩, ⟨3, 1, true⟩], lives 3⟩, true) := by rfl
  have HAP := Lib.hid hap
  clear hap
  go_enter Try.func14, Try.ntmps14
  go_wp2_with fail
  refine (First_ok 3 _ (by omega) (by omega)).mono ?_; rintro e w1 ⟨⟨x, rfl, hx⟩, hb1⟩
  obtain ⟨A1, c1, rfl, hc1, hm1, hr1⟩ := hx
  have HR1 := Lib.hid hr1
  have HB1 := Lib.hid hb1
  clear hb1 hr1
  have hl3 : (firstV 3).ms.length = 3 := rfl
  rw [hl3] at hc1
  have e1 : (firstV 3).e = 1 := rfl
  have eL : (firstV 3).L = lives 3 := rfl
  rw [e1, hl3, eL]
  have hL : ∀ i, lives 3 i < 256 := fun i => by unfold lives; split <;> omega
  go_wp2_with fail
  have hav := apply_any 1 A1 c1 (mems 3) (lives 3) 2 2 1 0 0 (w1.alloc (.cells #[.int .u32 1, .slice A1 3 c1, .int .u8 (lives 3 0), .int .u8 (lives 3 1), .int .u8 (lives 3 2), .int .u8 (lives 3 3), .int .u8 (lives 3 4), .int .u8 (lives 3 5), .int .u8 (lives 3 6), .int .u8 (lives 3 7)] 28)) (HR1.out.up _) (by decide) (by rw [mems_len]; exact hc1) hm1 (by omega) (by omega) hL (by omega) (by omega)
  rw [show applyV ⟨1, mems 3, lives 3⟩ 2 2 1 0 = _ from HAP.out] at hav
  rw [mems_len] at hav
  refine hav.mono ?_; rintro e w2 ⟨⟨x, rfl, hx⟩, hb2⟩
  obtain ⟨A2, c2, rfl, hc2, hm2, hr2⟩ := hx
  have hc2 : 2 ≤ c2 := hc2
  have G1 := Lib.hid ((Blk.new w1 28 #[.int .u32 1, .slice A1 3 c1, .int .u8 (lives 3 0), .int .u8 (lives 3 1), .int .u8 (lives 3 2), .int .u8 (lives 3 3), .int .u8 (lives 3 4), .int .u8 (lives 3 5), .int .u8 (lives 3 6), .int .u8 (lives 3 7)]).behind hb2)
  have HB2 := Lib.hid (bl_next (bl_alloc HB1.out _) hb2)
  have HR2 := Lib.hid hr2
  have lg := G1.out.lt
  clear hb2 hr2 hav hL
  simp only [List.length_cons, List.length_nil, Nat.zero_add, Nat.reduceAdd]
  go_wp2_with fail
  refine (Ends_any 2 A2 c2 3 [⟨1, 1, true⟩, ⟨3, 1, true⟩] (lives 3) _ (HR2.out.up _) (by decide)).mono ?_; rintro e w3 ⟨rfl, hb3⟩
  have ea : Ends.ahead [⟨1, 1, true⟩, ⟨3, 1, true⟩] 3 = 1 := rfl
  have eb : Ends.behind [⟨1, 1, true⟩, ⟨3, 1, true⟩] 3 = 0 := rfl
  rw [ea, eb]
  have G2 := Lib.hid ((Blk.new w2 28 #[.int .u32 2, .slice A2 2 c2, .int .u8 (lives 3 0), .int .u8 (lives 3 1), .int .u8 (lives 3 2), .int .u8 (lives 3 3), .int .u8 (lives 3 4), .int .u8 (lives 3 5), .int .u8 (lives 3 6), .int .u8 (lives 3 7)]).behind hb3)
  have G3 := Lib.hid ((G1.out.alloc (.cells #[.int .u32 2, .slice A2 2 c2, .int .u8 (lives 3 0), .int .u8 (lives 3 1), .int .u8 (lives 3 2), .int .u8 (lives 3 3), .int .u8 (lives 3 4), .int .u8 (lives 3 5), .int .u8 (lives 3 6), .int .u8 (lives 3 7)] 28)).behind hb3)
  have HB3 := Lib.hid (bl_next (bl_alloc HB2.out _) hb3)
  have HR3 := Lib.hid ((HR2.out.up _).lift hb3)
  clear hb3 ea eb
  obtain ⟨p0, p1, p2, p3, p4, p5, p6, p7, p8, p9⟩ := G2.out.ten
  obtain ⟨q0, q1, q2, q3, q4, q5, q6, q7, q8, q9⟩ := G3.out.ten
  go_wp2_with fail
  refine (Ready_any 2 A2 c2 [⟨1, 1, true⟩, ⟨3, 1, true⟩] (lives 3) _ HR3.out (by decide)).mono ?_; rintro e w4 ⟨rfl, hb4⟩
  have er : ready [⟨1, 1, true⟩, ⟨3, 1, true⟩] = 2 := rfl
  rw [er]
  have HB4 := Lib.hid (bl_next HB3.out hb4)
  clear hb4 er
  go_wp2_with fail
  go_ret
  exact ⟨rfl, HB4.out⟩
end View
end Go.Proofs.Ytidhblpcaccchaa
