/- Texts of this claim, one behind the other: FX, FW, Frm5, FY. -/
import Derived.Test.YtaepgceodcdnhaaDoorMFrameCodes2
/- Frames by the engine: the document's Decode, joined. -/
namespace Go.Proofs.YtaepgceodcdnhaaDoor.Vm
open Go Go.RowKit
set_option maxRecDepth 100000
namespace X6
open Frm (Cmd Mem Ent Lvs Fm Z zgo znum zmust zfld zflds zfin zend lets fm0 zhd zhdZ zbody zdecB decR decB openE)
theorem rdec_any (l : List UInt8) (hl : l.length ≤ 1000000000) : TCalls Tryd.prog 14 [str l] [] none_ (callPost (told (decT (decR l)) [] [])) := by
  have hQ : ∀ y, y = decT (decR l) → callPost (told (decT (decR l)) [] []) y [] none_ := fun y h => told_post h
  generalize callPost (told (decT (decR l)) [] []) = Q at *
  have hsz : (⟨l.toArray⟩ : ByteArray).size = l.length := by show l.toArray.size = _; simp
  have hw : T.v (.int .i64 (IntKind.wrap .i64 (((⟨l.toArray⟩ : ByteArray).size : Int) - 4))) = int ((l.length : Int) - 4) := congrArg int (by rw [hsz, wrap_i64 (by omega) (by omega)])
  by_cases h4 : l.length < 4
  · have e : openE l = 2 := by unfold Frm.openE; rw [if_pos h4]
    have hQ : Q (.tup [.agg zC, int 2]) [] none_ := hQ _ (by unfold Frm.decR; rw [e]; rfl)
    refine TCalls.of Tryd.func14 rfl (CanCall.of Tryd.func14 rfl (by decide)) [] fun Γ => ?_
    refine run_sound (⟨fun | 3, 3 => .res (int ((l.length : Int) - 4)) | _, _ => .no, [((0, 3), ([0, 2], 1))], fun | 17 => some ⟨[], [5, 9, 10], .take true [0,1,2,3,4] (.one 5 (.take false [6,7,8] (.one 9 (.one 10 .done))))⟩ | 21 => some ⟨[], [], .take true [0,1,2] (.one 3 (.take true [4] .done))⟩ | _ => none⟩) 400 (B := ∀ (b : Nat), bsplit (decide ((↑(ByteArray.size (ByteArray.mk (List.toArray l))) : Int) < (4 : Int))) ((34 = nat_lit 34 ∧ List.all zC T.one = true) ∧ b = b ∧ 0 + nat_lit 34 ≤ 34 ∧ b = b ∧ Q (T.tup [T.agg zC, int 2]) [] fun x => none) (TWk Tryd.prog Γ (fin Tryd.prog Tryd.f14 [] Q) [It.code (sub (bd Tryd.f14) [1, 1])] { fr := frame 100 [(0, str l), (2, T.ptr 0 b 0)], ob := [(b, Ob.cells zC)], gl := fun x => none })) (by kernel_rfl) ?_
    repeat' (first | exact rfl | exact Nat.le_of_ble_eq_true rfl | refine And.intro ?_ ?_ | intro _ | refine bsplit_mk (fun _ => ?_) (fun _ => ?_))
    all_goals first
      | exact hQ
      | (exfalso; simp only [decide_eq_false_iff_not, hsz] at *; omega)
      | trace_state
  · have hcut : T.v (.string ((⟨l.toArray⟩ : ByteArray).extract 0 ((l.length : Int) - 4).toNat)) = str (l.take (l.length - 4)) := by
      rw [X1.str_cut, show ((l.length : Int) - 4).toNat = l.length - 4 by omega]; rfl
    have hs := X2.rseal_any (l.take (l.length - 4)) (by rw [List.length_take]; omega) _ (fun x h => told_post (sel := []) (ob := []) h)
    have hbl : (l.take (l.length - 4)).length ≤ 1000000000 := by rw [List.length_take]; omega
    have hE : openE l = if Crc.sealL (l.take (l.length - 4)) ≠ l then 5 else 0 := by unfold Frm.openE; rw [if_neg h4]
    have hs' : TCalls Tryd.prog 37 [T.v (.string ((⟨l.toArray⟩ : ByteArray).extract (((0 : Nat) : Int)).toNat ((IntKind.i64, (l.length : Int) - 4).snd.toNat)))] [] none_ (callPost (told (str (Crc.sealL (l.take (l.length - 4)))) [] [])) := by rw [show T.v (.string ((⟨l.toArray⟩ : ByteArray).extract (((0 : Nat) : Int)).toNat ((IntKind.i64, (l.length : Int) - 4).snd.toNat))) = str (l.take (l.length - 4)) from hcut]; exact hs
    by_cases hb : Crc.sealL (l.take (l.length - 4)) = l
    · have hz : (Z.mk (l.take (l.length - 4)) 0 0).Ok := ⟨hbl, Nat.zero_le _⟩
      have hQ : Q (decT (zdecB (l.take (l.length - 4)))) [] none_ := hQ _ (by
        unfold Frm.decR
        rw [show openE l = 0 from hE.trans (if_neg (fun h => h hb)), if_neg (fun h => h rfl), Frm.zdec_eq])
      rw [hb] at hs hs'
      have s1 := rnum_post _ hz 1 (by decide)
      have s2 := rnum_post _ (hz.go 1) 1 (by decide)
      have s3 := rnum_post _ ((hz.go 1).go 1) 1 (by decide)
      have s4 := fun w => rmst_post (zgo 1 (zgo 1 (zgo 1 ⟨l.take (l.length - 4), 0, 0⟩))) w
      have k1 := w8 (Frm.znum1_lt ⟨l.take (l.length - 4), 0, 0⟩)
      have k2 := w8 (Frm.znum1_lt (zgo 1 ⟨l.take (l.length - 4), 0, 0⟩))
      have k3 := w8 (Frm.znum1_lt (zgo 1 (zgo 1 ⟨l.take (l.length - 4), 0, 0⟩)))
      have hf := rfields_post (znum 1 ⟨l.take (l.length - 4), 0, 0⟩) (Frm.znum1_lt _)
      have hne := strne (letS (lets (znum 1 ⟨l.take (l.length - 4), 0, 0⟩)))
      have hw2 : (!decide ((⟨(letS (lets (znum 1 ⟨l.take (l.length - 4), 0, 0⟩))).toArray⟩ : ByteArray) = ByteArray.mk #[])) = decide (lets (znum 1 ⟨l.take (l.length - 4), 0, 0⟩) ≠ []) := by
        rw [hne]
        have : (letS (lets (znum 1 ⟨l.take (l.length - 4), 0, 0⟩)) = []) ↔ (lets (znum 1 ⟨l.take (l.length - 4), 0, 0⟩) = []) := by unfold letS; exact List.map_eq_nil_iff
        simp only [this, ne_eq, decide_not]
      have lp : ∀ (Γ : Ctx) (b1 b4 b5 : Nat), TWk Tryd.prog Γ (fin Tryd.prog Tryd.f14 [] Q) [.code (sub (bd Tryd.f14) [1, 1, 1, 1, 1, 1, 1, 1, 1, 1, 1, 1, 0, 1, 0]), .blk 0, .code (sub (bd Tryd.f14) [1, 1, 1, 1, 1, 1, 1, 1, 1, 1, 1, 1, 1])] ⟨frame 100 [(2, .ptr 0 b1 0), (4, .ptr 1 b4 0), (5, .ptr 2 b5 0), (9, .v (.string ⟨(letS (lets (znum 1 ⟨l.take (l.length - 4), 0, 0⟩))).toArray⟩)), (10, int 0)], [(b1, .cells zC), (b4, .cells (stC (zmust (!decide ((⟨(letS (lets (znum 1 ⟨l.take (l.length - 4), 0, 0⟩))).toArray⟩ : ByteArray) = ByteArray.mk #[])) (zgo 1 (zgo 1 (zgo 1 ⟨l.take (l.length - 4), 0, 0⟩)))))), (b5, .cells (hdC (znum 1 ⟨l.take (l.length - 4), 0, 0⟩) (znum 1 (zgo 1 ⟨l.take (l.length - 4), 0, 0⟩)) (znum 1 (zgo 1 (zgo 1 ⟨l.take (l.length - 4), 0, 0⟩)))))], none_⟩ := fun Γ b1 b4 b5 => by
        rw [hw2]
        exact rdec_loop Γ b1 b4 b5 Q (zhd (l.take (l.length - 4))).kind (lets (zhd (l.take (l.length - 4))).kind) [] (zhdZ (l.take (l.length - 4))) (zhd (l.take (l.length - 4))) ((((hz.go 1).go 1).go 1).must _) rfl rfl rfl hQ
      have hzz : str (letS (lets (znum 1 ⟨l.take (l.length - 4), 0, 0⟩))) = .v (.string ⟨(letS (lets (znum 1 ⟨l.take (l.length - 4), 0, 0⟩))).toArray⟩) := rfl
      rw [hzz] at hf
      have s1 : TCalls Tryd.prog 45 [.agg [T.v (.string ((⟨l.toArray⟩ : ByteArray).extract (((0 : Nat) : Int)).toNat ((IntKind.i64, (l.length : Int) - 4).snd.toNat))), int ((0 : Nat) : Int), int 0], int ((1 : Nat) : Int)] [] none_ (callPost (told (.tup [.agg (stC (zgo 1 ⟨l.take (l.length - 4), 0, 0⟩)), u32 (znum 1 ⟨l.take (l.length - 4), 0, 0⟩)]) [] [])) := by rw [show T.v (.string ((⟨l.toArray⟩ : ByteArray).extract (((0 : Nat) : Int)).toNat ((IntKind.i64, (l.length : Int) - 4).snd.toNat))) = str (l.take (l.length - 4)) from hcut]; exact s1
      clear hQ hz hw2 hne hzz hs hE
      generalize (⟨(letS (lets (znum 1 ⟨l.take (l.length - 4), 0, 0⟩))).toArray⟩ : ByteArray) = zz at *
      generalize zgo 1 (zgo 1 (zgo 1 ⟨l.take (l.length - 4), 0, 0⟩)) = z3 at *
      generalize znum 1 (zgo 1 (zgo 1 ⟨l.take (l.length - 4), 0, 0⟩)) = n3 at *
      generalize zgo 1 (zgo 1 ⟨l.take (l.length - 4), 0, 0⟩) = z2 at *
      generalize znum 1 (zgo 1 ⟨l.take (l.length - 4), 0, 0⟩) = n2 at *
      generalize zgo 1 ⟨l.take (l.length - 4), 0, 0⟩ = z1 at *
      generalize znum 1 ⟨l.take (l.length - 4), 0, 0⟩ = n1 at *
      have hnn : (!decide ((⟨l.toArray⟩ : ByteArray) = ⟨l.toArray⟩)) = false := by rw [decide_eq_true rfl]; rfl
      unfold stC at *
      refine TCalls.of Tryd.func14 rfl (CanCall.of Tryd.func14 rfl (by decide)) [] fun Γ => ?_
      refine run_sound (⟨fun | 3, 3 => .res (int ((l.length : Int) - 4)) | 3, 5 => told (str l) [] [] | 5, 3 => .res (int ((l.length : Int) - 4)) | 8, 1 => told (.tup [.agg [str z1.s, int (z1.a : Nat), int z1.e], u32 n1]) [] [] | 9, 1 => told (.tup [.agg [str z2.s, int (z2.a : Nat), int z2.e], u32 n2]) [] [] | 10, 1 => told (.tup [.agg [str z3.s, int (z3.a : Nat), int z3.e], u32 n3]) [] [] | 11, 1 => .res (u8 n1) | 11, 3 => .res (u8 n2) | 11, 5 => .res (u8 n3) | 12, 2 => told (.v (.string zz)) [] [] | 13, 3 => mustH z3 | _, _ => .no, [((2, 15), ([2, 4, 5, 9, 10], 3))], fun | 17 => some ⟨[], [5, 9, 10], .take true [0,1,2,3,4] (.one 5 (.take false [6,7,8] (.one 9 (.one 10 .done))))⟩ | 21 => some ⟨[], [], .take true [0,1,2] (.one 3 (.take true [4] .done))⟩ | _ => none⟩) 400 (B := ∀ (b : Nat), bsplit (decide ((↑(ByteArray.size (ByteArray.mk (List.toArray l))) : Int) < (4 : Int))) ((34 = nat_lit 34 ∧ List.all zC T.one = true) ∧ b = b ∧ 0 + nat_lit 34 ≤ 34 ∧ b = b ∧ Q (T.tup [T.agg zC, int 2]) [] fun x => none) (int (IntKind.wrap IntKind.i64 ((↑(ByteArray.size (ByteArray.mk (List.toArray l))) : Int) - (4 : Int))) = int ((↑(List.length l) : Int) - (4 : Int)) ∧ ((0 : Int) ≤ (↑(0 : Nat) : Int) ∧ (↑(0 : Nat) : Int) ≤ Prod.snd (IntKind.i64, (↑(List.length l) : Int) - (4 : Int)) ∧ Prod.snd (IntKind.i64, (↑(List.length l) : Int) - (4 : Int)) ≤ (↑(ByteArray.size (ByteArray.mk (List.toArray l))) : Int)) ∧ TCalls Tryd.prog 37 [T.v (Value.string (ByteArray.extract (ByteArray.mk (List.toArray l)) (Int.toNat (↑(0 : Nat) : Int)) (Int.toNat (Prod.snd (IntKind.i64, (↑(List.length l) : Int) - (4 : Int))))))] [] none_ (callPost (Hint.call false Unit (fun x => True) [] false (fun x => str l) (fun x => []) fun x => none_)) ∧ ∀ (a : Unit), True → bsplit (!decide ((ByteArray.mk (List.toArray l)) = (ByteArray.mk (List.toArray l)))) ((34 = nat_lit 34 ∧ List.all zC T.one = true) ∧ b = b ∧ 0 + nat_lit 34 ≤ 34 ∧ b = b ∧ Q (T.tup [T.agg zC, int 5]) [] fun x => none) (int (IntKind.wrap IntKind.i64 ((↑(ByteArray.size (ByteArray.mk (List.toArray l))) : Int) - (4 : Int))) = int ((↑(List.length l) : Int) - (4 : Int)) ∧ ((0 : Int) ≤ (↑(0 : Nat) : Int) ∧ (↑(0 : Nat) : Int) ≤ Prod.snd (IntKind.i64, (↑(List.length l) : Int) - (4 : Int)) ∧ Prod.snd (IntKind.i64, (↑(List.length l) : Int) - (4 : Int)) ≤ (↑(ByteArray.size (ByteArray.mk (List.toArray l))) : Int)) ∧ ∀ (b_1 : Nat), (3 = nat_lit 3 ∧ List.all [T.v (Value.string (ByteArray.extract (ByteArray.mk (List.toArray l)) (Int.toNat (↑(0 : Nat) : Int)) (Int.toNat (Prod.snd (IntKind.i64, (↑(List.length l) : Int) - (4 : Int)))))), int 0, int 0] T.one = true) ∧ b_1 = b_1 ∧ 0 + nat_lit 3 ≤ 3 ∧ ∀ (b_2 : Nat), b_1 = b_1 ∧ TCalls Tryd.prog 45 [T.agg [T.v (Value.string (ByteArray.extract (ByteArray.mk (List.toArray l)) (Int.toNat (↑(0 : Nat) : Int)) (Int.toNat (Prod.snd (IntKind.i64, (↑(List.length l) : Int) - (4 : Int)))))), int 0, int 0], int 1] [] none_ (callPost (Hint.call false Unit (fun x => True) [] false (fun x => T.tup [T.agg [str (Z.s z1), int (↑(Z.a z1) : Int), int (Z.e z1)], u32 (↑n1 : Int)]) (fun x => []) fun x => none_)) ∧ ∀ (a : Unit), True → (3 = nat_lit 3 ∧ List.all (stC z1) T.one = true) ∧ b_1 = b_1 ∧ 0 + nat_lit 3 ≤ 3 ∧ b_1 = b_1 ∧ TCalls Tryd.prog 45 [T.agg (stC z1), int 1] [] none_ (callPost (Hint.call false Unit (fun x => True) [] false (fun x => T.tup [T.agg [str (Z.s z2), int (↑(Z.a z2) : Int), int (Z.e z2)], u32 (↑n2 : Int)]) (fun x => []) fun x => none_)) ∧ ∀ (a : Unit), True → (3 = nat_lit 3 ∧ List.all (stC z2) T.one = true) ∧ b_1 = b_1 ∧ 0 + nat_lit 3 ≤ 3 ∧ b_1 = b_1 ∧ TCalls Tryd.prog 45 [T.agg (stC z2), int 1] [] none_ (callPost (Hint.call false Unit (fun x => True) [] false (fun x => T.tup [T.agg [str (Z.s z3), int (↑(Z.a z3) : Int), int (Z.e z3)], u32 (↑n3 : Int)]) (fun x => []) fun x => none_)) ∧ ∀ (a : Unit), True → (3 = nat_lit 3 ∧ List.all (stC z3) T.one = true) ∧ b_1 = b_1 ∧ 0 + nat_lit 3 ≤ 3 ∧ u8 (IntKind.wrap IntKind.u8 (↑n1 : Int)) = u8 n1 ∧ u8 (IntKind.wrap IntKind.u8 (↑n2 : Int)) = u8 n2 ∧ u8 (IntKind.wrap IntKind.u8 (↑n3 : Int)) = u8 n3 ∧ (1 = nat_lit 1 ∧ List.all (List.map T.v (Array.toList #[Value.int IntKind.u8 (↑n1 : Int)])) T.one = true) ∧ b_2 = b_2 ∧ 0 + nat_lit 1 ≤ 34 ∧ (1 = nat_lit 1 ∧ List.all (List.map T.v (Array.toList #[Value.int IntKind.u8 (↑n2 : Int)])) T.one = true) ∧ b_2 = b_2 ∧ 1 + nat_lit 1 ≤ 34 ∧ (1 = nat_lit 1 ∧ List.all (List.map T.v (Array.toList #[Value.int IntKind.u8 (↑n3 : Int)])) T.one = true) ∧ b_2 = b_2 ∧ 2 + nat_lit 1 ≤ 34 ∧ b_2 = b_2 ∧ TCalls Tryd.prog 32 [u8 n1] [] none_ (callPost (Hint.call false Unit (fun x => True) [] false (fun x => T.v (Value.string zz)) (fun x => []) fun x => none_)) ∧ ∀ (a : Unit), True → b_1 = b_1 ∧ TCalls Tryd.prog 46 [T.agg (stC z3), bool (!decide (zz = (ByteArray.mk (#[]))))] [] none_ (callPost (Hint.call false Unit (fun x => True) [] false (fun x => T.agg [str (Z.s (zmust (!decide (zz = (ByteArray.mk (#[])))) z3)), int (↑(Z.a (zmust (!decide (zz = (ByteArray.mk (#[])))) z3)) : Int), int (Z.e (zmust (!decide (zz = (ByteArray.mk (#[])))) z3))]) (fun x => []) fun x => none_)) ∧ ∀ (a : Unit), True → (3 = nat_lit 3 ∧ List.all [str (Z.s (zmust (!decide (zz = (ByteArray.mk (#[])))) z3)), int (Z.a (zmust (!decide (zz = (ByteArray.mk (#[])))) z3)), int (Z.e (zmust (!decide (zz = (ByteArray.mk (#[])))) z3))] T.one = true) ∧ b_1 = b_1 ∧ 0 + nat_lit 3 ≤ 3 ∧ TWk Tryd.prog Γ (fin Tryd.prog Tryd.f14 [] Q) [It.code (sub (bd Tryd.f14) [1, 1, 1, 1, 1, 1, 1, 1, 1, 1, 1, 1, 0, 1, 0]), It.blk 0, It.code (sub (bd Tryd.f14) [1, 1, 1, 1, 1, 1, 1, 1, 1, 1, 1, 1, 1])] { fr := frame 100 [(2, T.ptr 0 b 0), (4, T.ptr 1 b_1 0), (5, T.ptr 2 b_2 0), (9, T.v (Value.string zz)), (10, int 0)], ob := [(b, Ob.cells zC), (b_1, Ob.cells [str (Z.s (zmust (!decide (zz = (ByteArray.mk (#[])))) z3)), int (Z.a (zmust (!decide (zz = (ByteArray.mk (#[])))) z3)), int (Z.e (zmust (!decide (zz = (ByteArray.mk (#[])))) z3))]), (b_2, Ob.cells [u8 n1, u8 n2, u8 n3, u32 0, u8 0, u32 0, u8 0, u8 0, bool false, str [], bool false, bool false, u8 0, u8 0, u32 0, u32 0, u8 0, u32 0, u8 0, u8 0, u8 0, u32 0, u32 0, u32 0, T.v nilS, u8 0, u8 0, u8 0, u8 0, u8 0, u8 0, u8 0, u8 0, T.v nilS])], gl := fun x => none }))) (by kernel_rfl) ?_
      repeat' (first | exact rfl | exact Nat.le_of_ble_eq_true rfl | refine And.intro ?_ ?_ | intro _ | refine bsplit_mk (fun _ => ?_) (fun _ => ?_))
      all_goals first
        | exact hw
        | exact hs'
        | exact s1
        | exact s2
        | exact s3
        | exact s4 _
        | exact k1
        | exact k2
        | exact k3
        | exact hf
        | exact lp Γ _ _ _
        | (exfalso; rename_i h; rw [hnn] at h; cases h; done)
        | (exfalso; simp only [decide_eq_true_eq, hsz] at *; omega)
        | omega
        | (rw [hsz]; omega)
        | (show (0 : Int) ≤ (l.length : Int) - 4; omega)
        | (show (l.length : Int) - 4 ≤ (((⟨l.toArray⟩ : ByteArray).size : Nat) : Int); rw [hsz]; omega)
        | (clear lp; trace_state)
    · have hQ : Q (.tup [.agg zC, int 5]) [] none_ := hQ _ (by
        unfold Frm.decR
        rw [show openE l = 5 from hE.trans (if_pos hb)]; rfl)
      have hnn : (!decide ((⟨(Crc.sealL (l.take (l.length - 4))).toArray⟩ : ByteArray) = ⟨l.toArray⟩)) = true := by rw [decide_eq_false (fun h => hb (str_inj.1 h))]; rfl
      clear hE
      generalize Crc.sealL (l.take (l.length - 4)) = sb at *
      refine TCalls.of Tryd.func14 rfl (CanCall.of Tryd.func14 rfl (by decide)) [] fun Γ => ?_
      refine run_sound (⟨fun | 3, 3 => .res (int ((l.length : Int) - 4)) | 3, 5 => told (str sb) [] [] | 5, 3 => .no | _, _ => .no, [((0, 5), ([0, 2], 1))], fun | 17 => some ⟨[], [5, 9, 10], .take true [0,1,2,3,4] (.one 5 (.take false [6,7,8] (.one 9 (.one 10 .done))))⟩ | 21 => some ⟨[], [], .take true [0,1,2] (.one 3 (.take true [4] .done))⟩ | _ => none⟩) 400 (B := ∀ (b : Nat), bsplit (decide ((↑(ByteArray.size (ByteArray.mk (List.toArray l))) : Int) < (4 : Int))) ((34 = nat_lit 34 ∧ List.all zC T.one = true) ∧ b = b ∧ 0 + nat_lit 34 ≤ 34 ∧ b = b ∧ Q (T.tup [T.agg zC, int 2]) [] fun x => none) (int (IntKind.wrap IntKind.i64 ((↑(ByteArray.size (ByteArray.mk (List.toArray l))) : Int) - (4 : Int))) = int ((↑(List.length l) : Int) - (4 : Int)) ∧ ((0 : Int) ≤ (↑(0 : Nat) : Int) ∧ (↑(0 : Nat) : Int) ≤ Prod.snd (IntKind.i64, (↑(List.length l) : Int) - (4 : Int)) ∧ Prod.snd (IntKind.i64, (↑(List.length l) : Int) - (4 : Int)) ≤ (↑(ByteArray.size (ByteArray.mk (List.toArray l))) : Int)) ∧ TCalls Tryd.prog 37 [T.v (Value.string (ByteArray.extract (ByteArray.mk (List.toArray l)) (Int.toNat (↑(0 : Nat) : Int)) (Int.toNat (Prod.snd (IntKind.i64, (↑(List.length l) : Int) - (4 : Int))))))] [] none_ (callPost (Hint.call false Unit (fun x => True) [] false (fun x => str sb) (fun x => []) fun x => none_)) ∧ ∀ (a : Unit), True → bsplit (!decide ((ByteArray.mk (List.toArray sb)) = (ByteArray.mk (List.toArray l)))) ((34 = nat_lit 34 ∧ List.all zC T.one = true) ∧ b = b ∧ 0 + nat_lit 34 ≤ 34 ∧ b = b ∧ Q (T.tup [T.agg zC, int 5]) [] fun x => none) (TWk Tryd.prog Γ (fin Tryd.prog Tryd.f14 [] Q) [It.code (sub (bd Tryd.f14) [1, 1, 1])] { fr := frame 100 [(0, str l), (2, T.ptr 0 b 0)], ob := [(b, Ob.cells zC)], gl := fun x => none }))) (by kernel_rfl) ?_
      repeat' (first | exact rfl | exact Nat.le_of_ble_eq_true rfl | refine And.intro ?_ ?_ | intro _ | refine bsplit_mk (fun _ => ?_) (fun _ => ?_))
      all_goals first
        | exact hw
        | exact hs'
        | exact hQ
        | (exfalso; rename_i h; rw [hnn] at h; cases h; done)
        | (exfalso; simp only [decide_eq_true_eq, hsz] at *; omega)
        | omega
        | (rw [hsz]; omega)
        | (show (0 : Int) ≤ (l.length : Int) - 4; omega)
        | (show (l.length : Int) - 4 ≤ (((⟨l.toArray⟩ : ByteArray).size : Nat) : Int); rw [hsz]; omega)
        | trace_state
end X6
end Go.Proofs.YtaepgceodcdnhaaDoor.Vm
/- Frames by the engine: the law's made. -/
namespace Go.Proofs.YtaepgceodcdnhaaDoor.Vm
open Go Go.RowKit
set_option maxRecDepth 100000
namespace X6
open Frm (Cmd Mem Ent Lvs Fm)
def rmL (M : List T) (h : Value) : Nat × Ob := (0, .room 3 98 M.length h)
def reL (M : List T) (h : Value) : Nat × Ob := (0, .room 8 101 M.length h)
def obsM1 (b0 b2 b3 : Nat) (y : Fm) (M : List T) (h : Value) : Obs := [(b0, .cells (frC y)), (b2, .cells zC), (b3, .cells (frS y (.slx 3 3 M h) (.v nilS))), rmL M h]
def obsM2 (b0 b2 b3 : Nat) (y : Fm) (M E : List T) (h h2 : Value) : Obs := [(b0, .cells (frC y)), (b2, .cells zC), (b3, .cells (frS y (.slx 3 3 M h) (.slx 8 4 E h2))), rmL M h, reL E h2]
section
variable (Γ : Ctx) (b0 b2 b3 : Nat) (y : Fm) (Q : T → Obs → Glb → Prop)
theorem made_end (hQ : Q (.agg (frC (cutF y))) [] none_) :
    TWk Tryd.prog Γ (fin Tryd.prog Tryd.f16 [] Q) [.code (sub (bd Tryd.f16) [1, 1, 1, 1])] ⟨frame 101 [(2, .ptr 1 b2 0), (3, .ptr 2 b3 0)], [(b0, .cells (frC y)), (b2, .cells zC), (b3, .cells (frC y))], none_⟩ := by
  have t1 := told_any y
  rw [frC_cut] at *
  rw [show frC y = frS y (.sl 3 (Row.aggs memC y.ms)) (.sl 8 (Row.aggs entC y.es)) from rfl] at *
  generalize Row.aggs memC (y.ms.take 10) = M1 at *
  generalize Row.aggs entC (y.es.take 18) = E1 at *
  generalize Row.aggs memC y.ms = M at *
  generalize Row.aggs entC y.es = E at *
  unfold frS at *
  refine run_sound (⟨fun | 11, 1 => told (.tup [.agg (frS y (.sl 3 M1) (.sl 8 E1)), .agg (frS y (.sl 3 M1) (.sl 8 E1))]) [] [] | _, _ => .no, [], fun | 5 => some ⟨[], [8, 10], .take true [0,1,2,3,4,5,6] (.one 7 (.one 8 (.take false [9] (.one 10 .done))))⟩ | _ => none⟩) 400 (B := b3 = b3 ∧ TCalls Tryd.prog 10 [T.agg (frS y (T.sl 3 M) (T.sl 8 E))] [] none_ (callPost (Hint.call false Unit (fun x => True) [] false (fun x => T.tup [T.agg (frS y (T.sl 3 M1) (T.sl 8 E1)), T.agg (frS y (T.sl 3 M1) (T.sl 8 E1))]) (fun x => []) fun x => none_)) ∧ ∀ (a : Unit), True → ∀ (b b_1 : Nat), (34 = nat_lit 34 ∧ List.all (frS y (T.sl 3 M1) (T.sl 8 E1)) T.one = true) ∧ b = b ∧ 0 + nat_lit 34 ≤ 34 ∧ (34 = nat_lit 34 ∧ List.all (frS y (T.sl 3 M1) (T.sl 8 E1)) T.one = true) ∧ b_1 = b_1 ∧ 0 + nat_lit 34 ≤ 34 ∧ b = b ∧ (34 = nat_lit 34 ∧ List.all (frS y (T.sl 3 M1) (T.sl 8 E1)) T.one = true) ∧ b2 = b2 ∧ 0 + nat_lit 34 ≤ 34 ∧ b2 = b2 ∧ Q (T.agg (frS y (T.sl 3 M1) (T.sl 8 E1))) [] fun x => none) (by kernel_rfl) ?_
  repeat' (first | exact rfl | exact Nat.le_of_ble_eq_true rfl | refine And.intro ?_ ?_ | intro _ | refine bsplit_mk (fun _ => ?_) (fun _ => ?_))
  all_goals first
    | exact t1
    | exact hQ
    | trace_state
theorem made_l2 (h : Value) (hes : y.es.length ≤ 100) (hQ : Q (.agg (frC (cutF y))) [] none_) : ∀ (r d : List Ent) (h2 : Value), y.es = d ++ r →
    TWk Tryd.prog Γ (fin Tryd.prog Tryd.f16 [] Q) [.code (sub (bd Tryd.f16) [1, 1, 1, 0, 1, 0]), .blk 2, .code (sub (bd Tryd.f16) [1, 1, 1, 1])] ⟨frame 101 [(1, .ptr 0 b0 0), (2, .ptr 1 b2 0), (3, .ptr 2 b3 0), (5, int (d.length : Nat))], obsM2 b0 b2 b3 y (Row.aggs memC y.ms) (Row.aggs entC d) h h2, none_⟩ := by
  intro r
  induction r with
  | nil =>
    intro d h2 e
    have e : y.es = d := by rw [e, List.append_nil]
    subst e
    have en := made_end Γ b0 b2 b3 y Q hQ
    have en : TWk Tryd.prog Γ (fin Tryd.prog Tryd.f16 [] Q) [.code (sub (bd Tryd.f16) [1, 1, 1, 1])] ⟨frame 101 [(2, .ptr 1 b2 0), (3, .ptr 2 b3 0)], obsM2 b0 b2 b3 y (Row.aggs memC y.ms) (Row.aggs entC y.es) h h2, none_⟩ :=
      TWk.imp (s := ⟨frame 101 [(2, .ptr 1 b2 0), (3, .ptr 2 b3 0)], obsM2 b0 b2 b3 y (Row.aggs memC y.ms) (Row.aggs entC y.es) h h2, none_⟩) (TWk.imp (s := ⟨frame 101 [(2, .ptr 1 b2 0), (3, .ptr 2 b3 0)], [(b0, .cells (frC y)), (b2, .cells zC), (b3, .cells (frC y)), rmL (Row.aggs memC y.ms) h, reL (Row.aggs entC y.es) h2], none_⟩) en (Imp.take 3))
        (Imp.weak (i := 2) (b := b3) (cs := frS y (.slx 3 3 (Row.aggs memC y.ms) h) (.slx 8 4 (Row.aggs entC y.es) h2)) rfl)
    have hlen : (Row.aggs entC y.es).length = y.es.length := Row.aggs_len y.es
    have hlt : decide ((y.es.length : Int) < ((Row.aggs entC y.es).length : Int)) = false := decide_eq_false (by omega)
    clear hQ
    unfold obsM2 frC frS rmL reL at *
    generalize Row.aggs memC y.ms = XM at *
    generalize Row.aggs entC y.es = XE at *
    generalize (y.es.length : Nat) = n at *
    refine run_sound (⟨fun | 9, 3 => .no | _, _ => .no, [((2, 7), ([1, 2, 3, 5], 5)), ((0, 11), ([2, 3], 5)), ((0, 9), ([1, 2, 3, 5], 5))], fun | 5 => some ⟨[], [8, 10], .take true [0,1,2,3,4,5,6] (.one 7 (.one 8 (.take false [9] (.one 10 .done))))⟩ | _ => none⟩) 400 (B := b0 = b0 ∧ bsplit (decide ((↑n : Int) < (↑(List.length XE) : Int))) (TWk Tryd.prog Γ (fin Tryd.prog Tryd.f16 [] Q) [It.code (sub (bd Tryd.f16) [1, 1, 1, 0, 1, 0, 0, 1, 0, 0]), It.blk 3, It.code (sub (bd Tryd.f16) [1, 1, 1, 0, 1, 0, 0, 1, 1]), It.code (sub (bd Tryd.f16) [1, 1, 1, 0, 1, 0]), It.blk 2, It.code (sub (bd Tryd.f16) [1, 1, 1, 1])] { fr := frame 101 [(1, T.ptr 0 b0 0), (2, T.ptr 1 b2 0), (3, T.ptr 2 b3 0), (5, int n)], ob := [(b0, Ob.cells (frS y (T.sl 3 XM) (T.sl 8 XE))), (b2, Ob.cells zC), (b3, Ob.cells (frS y (T.slx 3 3 XM h) (T.slx 8 4 XE h2))), (0, Ob.room 3 98 (List.length XM) h), (0, Ob.room 8 101 (List.length XE) h2)], gl := fun x => none }) (TWk Tryd.prog Γ (fin Tryd.prog Tryd.f16 [] Q) [It.code (sub (bd Tryd.f16) [1, 1, 1, 1])] { fr := frame 101 [(2, T.ptr 1 b2 0), (3, T.ptr 2 b3 0)], ob := [(b0, Ob.cells (frS y (T.sl 3 XM) (T.sl 8 XE))), (b2, Ob.cells zC), (b3, Ob.cells (frS y (T.slx 3 3 XM h) (T.slx 8 4 XE h2))), (0, Ob.room 3 98 (List.length XM) h), (0, Ob.room 8 101 (List.length XE) h2)], gl := fun x => none })) (by kernel_rfl) ?_
    repeat' (first | exact rfl | exact Nat.le_of_ble_eq_true rfl | refine And.intro ?_ ?_ | intro _ | refine bsplit_mk (fun _ => ?_) (fun _ => ?_))
    all_goals first
      | exact en
      | (exfalso; rename_i hh; rw [hlt] at hh; cases hh; done)
      | trace_state
  | cons a r ih =>
    intro d h2 e
    have hlen : (Row.aggs entC y.es).length = y.es.length := Row.aggs_len y.es
    have hdl : (Row.aggs entC d).length = d.length := Row.aggs_len d
    have hlt : d.length < y.es.length := by rw [e]; simp
    have hlt2 : decide ((d.length : Int) < ((Row.aggs entC y.es).length : Int)) = true := decide_eq_true (by omega)
    have hat : (Row.aggs entC y.es)[(d.length : Int).toNat]? = some (.agg (entC a)) := Row.aggs_at (by rw [e]; simp)
    have nx := fun h2 => ih (d ++ [a]) h2 (by rw [e]; simp)
    rw [show (d ++ [a]).length = d.length + 1 by simp] at nx
    simp only [Row.aggs_snoc] at nx
    clear hQ ih
    unfold obsM2 frC frS rmL reL entC at *
    generalize Row.aggs memC y.ms = XM at *
    generalize Row.aggs _ y.es = XE at *
    generalize Row.aggs _ d = D at *
    generalize d.length = n at *
    refine run_sound (⟨fun | 9, 3 => .res (.agg [u32 a.s, u32 a.n, u8 a.b, u8 a.c.k, u8 a.c.n, u8 a.c.l, u32 a.c.e, u32 a.c.q]) | 8, 1 => .res (int (n + 1 : Nat)) | _, _ => .no, [((2, 7), ([1, 2, 3, 5], 5)), ((0, 11), ([2, 3], 5))], fun | 5 => some ⟨[], [8, 10], .take true [0,1,2,3,4,5,6] (.one 7 (.one 8 (.take false [9] (.one 10 .done))))⟩ | _ => none⟩) 400 (B := b0 = b0 ∧ bsplit (decide ((↑n : Int) < (↑(List.length XE) : Int))) (b0 = b0 ∧ (0 : Int) ≤ (↑n : Int) ∧ XE[Int.toNat (↑n : Int)]? = some (T.agg [u32 (Ent.s a), u32 (Ent.n a), u8 (Ent.b a), u8 (Cmd.k (Ent.c a)), u8 (Cmd.n (Ent.c a)), u8 (Cmd.l (Ent.c a)), u32 (Cmd.e (Ent.c a)), u32 (Cmd.q (Ent.c a))]) ∧ ∀ (b : Nat), (8 = nat_lit 8 ∧ List.all [u32 (Ent.s a), u32 (Ent.n a), u8 (Ent.b a), u8 (Cmd.k (Ent.c a)), u8 (Cmd.n (Ent.c a)), u8 (Cmd.l (Ent.c a)), u32 (Cmd.e (Ent.c a)), u32 (Cmd.q (Ent.c a))] T.one = true) ∧ b = b ∧ 0 + nat_lit 8 ≤ 8 ∧ b3 = b3 ∧ b = b ∧ b = b ∧ b = b ∧ b = b ∧ (h2 = h2 ∧ List.length D = List.length D) ∧ Fits (List.length D + 1) (nat_lit 24) ∧ ∀ (x : Value), (1 = nat_lit 1 ∧ List.all [T.slx 8 4 (D ++ [T.agg [u32 (Ent.s a), u32 (Ent.n a), u8 (Ent.b a), u8 (Cmd.k (Ent.c a)), u8 (Cmd.n (Ent.c a)), u8 (Cmd.l (Ent.c a)), u32 (Cmd.e (Ent.c a)), u32 (Cmd.q (Ent.c a))]]) x] T.one = true) ∧ b3 = b3 ∧ 33 + nat_lit 1 ≤ 34 ∧ int (IntKind.wrap IntKind.i64 ((↑n : Int) + (1 : Int))) = int (n + 1) ∧ TWk Tryd.prog Γ (fin Tryd.prog Tryd.f16 [] Q) [It.code (sub (bd Tryd.f16) [1, 1, 1, 0, 1, 0]), It.blk 2, It.code (sub (bd Tryd.f16) [1, 1, 1, 1])] { fr := frame 101 [(1, T.ptr 0 b0 0), (2, T.ptr 1 b2 0), (3, T.ptr 2 b3 0), (5, int (n + 1))], ob := [(b0, Ob.cells (frS y (T.sl 3 XM) (T.sl 8 XE))), (b2, Ob.cells zC), (b3, Ob.cells (frS y (T.slx 3 3 XM h) (T.slx 8 4 (D ++ [T.agg [u32 (Ent.s a), u32 (Ent.n a), u8 (Ent.b a), u8 (Cmd.k (Ent.c a)), u8 (Cmd.n (Ent.c a)), u8 (Cmd.l (Ent.c a)), u32 (Cmd.e (Ent.c a)), u32 (Cmd.q (Ent.c a))]]) x))), (0, Ob.room 3 98 (List.length XM) h), (0, Ob.room 8 101 (List.length (D ++ [T.agg [u32 (Ent.s a), u32 (Ent.n a), u8 (Ent.b a), u8 (Cmd.k (Ent.c a)), u8 (Cmd.n (Ent.c a)), u8 (Cmd.l (Ent.c a)), u32 (Cmd.e (Ent.c a)), u32 (Cmd.q (Ent.c a))]])) x)], gl := fun x => none }) (TWk Tryd.prog Γ (fin Tryd.prog Tryd.f16 [] Q) [It.code (sub (bd Tryd.f16) [1, 1, 1, 1])] { fr := frame 101 [(2, T.ptr 1 b2 0), (3, T.ptr 2 b3 0)], ob := [(b0, Ob.cells (frS y (T.sl 3 XM) (T.sl 8 XE))), (b2, Ob.cells zC), (b3, Ob.cells (frS y (T.slx 3 3 XM h) (T.slx 8 4 D h2))), (0, Ob.room 3 98 (List.length XM) h), (0, Ob.room 8 101 (List.length D) h2)], gl := fun x => none })) (by kernel_rfl) ?_
    repeat' (first | exact rfl | exact Nat.le_of_ble_eq_true rfl | refine And.intro ?_ ?_ | intro _ | refine bsplit_mk (fun _ => ?_) (fun _ => ?_))
    all_goals first
      | exact hat
      | exact n1T (by omega)
      | (exfalso; rename_i hh; rw [hlt2] at hh; cases hh; done)
      | exact nx _
      | exact Int.natCast_nonneg _
      | (simp [maxLen]; omega)
      | omega
      | (clear nx; trace_state)
theorem made_l1 (hms : y.ms.length ≤ 100) (hes : y.es.length ≤ 100) (hQ : Q (.agg (frC (cutF y))) [] none_) : ∀ (r d : List Mem) (h : Value), y.ms = d ++ r →
    TWk Tryd.prog Γ (fin Tryd.prog Tryd.f16 [] Q) [.code (sub (bd Tryd.f16) [1, 1, 0, 1, 0]), .blk 0, .code (sub (bd Tryd.f16) [1, 1, 1])] ⟨frame 101 [(1, .ptr 0 b0 0), (2, .ptr 1 b2 0), (3, .ptr 2 b3 0), (4, int (d.length : Nat))], obsM1 b0 b2 b3 y (Row.aggs memC d) h, none_⟩ := by
  intro r
  induction r with
  | nil =>
    intro d h e
    have e : y.ms = d := by rw [e, List.append_nil]
    subst e
    have en := made_l2 Γ b0 b2 b3 y Q h hes hQ y.es [] nilS rfl
    have en : TWk Tryd.prog Γ (fin Tryd.prog Tryd.f16 [] Q) [.code (sub (bd Tryd.f16) [1, 1, 1, 0, 1, 0]), .blk 2, .code (sub (bd Tryd.f16) [1, 1, 1, 1])] ⟨frame 101 [(1, .ptr 0 b0 0), (2, .ptr 1 b2 0), (3, .ptr 2 b3 0), (5, int 0)], obsM1 b0 b2 b3 y (Row.aggs memC y.ms) h, none_⟩ := by
      have l2 := TWk.imp (s := ⟨frame 101 [(1, .ptr 0 b0 0), (2, .ptr 1 b2 0), (3, .ptr 2 b3 0), (5, int 0)], obsM1 b0 b2 b3 y (Row.aggs memC y.ms) h ++ [reL [] nilS], none_⟩) en
        (Imp.cell 8 4 (ob := [(b0, .cells (frC y)), (b2, .cells zC), (b3, .cells (frS y (.slx 3 3 (Row.aggs memC y.ms) h) (.v nilS))), rmL (Row.aggs memC y.ms) h, reL [] nilS]) (i := 2) (j := 33) (b := b3) (cs := frS y (.slx 3 3 (Row.aggs memC y.ms) h) (.v nilS)) rfl rfl)
      exact TWk.imp l2 (Imp.room (ob := obsM1 b0 b2 b3 y (Row.aggs memC y.ms) h) 8 101)
    have hlen : (Row.aggs memC y.ms).length = y.ms.length := Row.aggs_len y.ms
    have hlt : decide ((y.ms.length : Int) < ((Row.aggs memC y.ms).length : Int)) = false := decide_eq_false (by omega)
    clear hQ
    unfold obsM1 frC frS rmL at *
    generalize Row.aggs memC y.ms = XM at *
    generalize Row.aggs entC y.es = XE at *
    generalize (y.ms.length : Nat) = n at *
    refine run_sound (⟨fun | 5, 5 => .no | _, _ => .no, [((2, 3), ([1, 2, 3, 4], 4)), ((2, 7), ([1, 2, 3, 5], 4)), ((1, 1), ([1, 2, 3, 4], 4))], fun | 5 => some ⟨[0, 2], [8, 10], .take true [0,1,2,3,4,5,6] (.one 7 (.one 8 (.take false [9] (.one 10 .done))))⟩ | _ => none⟩) 400 (B := b0 = b0 ∧ bsplit (decide ((↑n : Int) < (↑(List.length XM) : Int))) (TWk Tryd.prog Γ (fin Tryd.prog Tryd.f16 [] Q) [It.code (sub (bd Tryd.f16) [1, 1, 0, 1, 0, 0, 1]), It.code (sub (bd Tryd.f16) [1, 1, 0, 1, 0]), It.blk 0, It.code (sub (bd Tryd.f16) [1, 1, 1])] { fr := frame 101 [(1, T.ptr 0 b0 0), (2, T.ptr 1 b2 0), (3, T.ptr 2 b3 0), (4, int n)], ob := [(b0, Ob.cells (frS y (T.sl 3 XM) (T.sl 8 XE))), (b2, Ob.cells zC), (b3, Ob.cells (frS y (T.slx 3 3 XM h) (T.v nilS))), (0, Ob.room 3 98 (List.length XM) h)], gl := fun x => none }) (TWk Tryd.prog Γ (fin Tryd.prog Tryd.f16 [] Q) [It.code (sub (bd Tryd.f16) [1, 1, 1, 0, 1, 0]), It.blk 2, It.code (sub (bd Tryd.f16) [1, 1, 1, 1])] { fr := frame 101 [(1, T.ptr 0 b0 0), (2, T.ptr 1 b2 0), (3, T.ptr 2 b3 0), (5, int 0)], ob := [(b0, Ob.cells (frS y (T.sl 3 XM) (T.sl 8 XE))), (b2, Ob.cells zC), (b3, Ob.cells (frS y (T.slx 3 3 XM h) (T.v nilS))), (0, Ob.room 3 98 (List.length XM) h)], gl := fun x => none })) (by kernel_rfl) ?_
    repeat' (first | exact rfl | exact Nat.le_of_ble_eq_true rfl | refine And.intro ?_ ?_ | intro _ | refine bsplit_mk (fun _ => ?_) (fun _ => ?_))
    all_goals first
      | exact en
      | (exfalso; rename_i hh; rw [hlt] at hh; cases hh; done)
      | trace_state
  | cons a r ih =>
    intro d h e
    have hlen : (Row.aggs memC y.ms).length = y.ms.length := Row.aggs_len y.ms
    have hdl : (Row.aggs memC d).length = d.length := Row.aggs_len d
    have hlt : d.length < y.ms.length := by rw [e]; simp
    have hlt2 : decide ((d.length : Int) < ((Row.aggs memC y.ms).length : Int)) = true := decide_eq_true (by omega)
    have hat : (Row.aggs memC y.ms)[(d.length : Int).toNat]? = some (.agg (memC a)) := Row.aggs_at (by rw [e]; simp)
    have nx := fun h => ih (d ++ [a]) h (by rw [e]; simp)
    rw [show (d ++ [a]).length = d.length + 1 by simp] at nx
    simp only [Row.aggs_snoc] at nx
    clear hQ ih
    unfold obsM1 frC frS rmL memC at *
    generalize Row.aggs entC y.es = XE at *
    generalize Row.aggs _ y.ms = XM at *
    generalize Row.aggs _ d = D at *
    generalize d.length = n at *
    refine run_sound (⟨fun | 5, 5 => .res (.agg [u8 a.n, u8 a.l, bool a.r]) | 4, 1 => .res (int (n + 1 : Nat)) | _, _ => .no, [((2, 3), ([1, 2, 3, 4], 4)), ((2, 7), ([1, 2, 3, 5], 4))], fun | 5 => some ⟨[0, 2], [8, 10], .take true [0,1,2,3,4,5,6] (.one 7 (.one 8 (.take false [9] (.one 10 .done))))⟩ | _ => none⟩) 400 (B := b0 = b0 ∧ bsplit (decide ((↑n : Int) < (↑(List.length XM) : Int))) (b3 = b3 ∧ b0 = b0 ∧ (0 : Int) ≤ (↑n : Int) ∧ XM[Int.toNat (↑n : Int)]? = some (T.agg [u8 (Mem.n a), u8 (Mem.l a), bool (Mem.r a)]) ∧ (h = h ∧ List.length D = List.length D) ∧ Fits (List.length D + 1) (nat_lit 3) ∧ ∀ (x : Value), (1 = nat_lit 1 ∧ List.all [T.slx 3 3 (D ++ [T.agg [u8 (Mem.n a), u8 (Mem.l a), bool (Mem.r a)]]) x] T.one = true) ∧ b3 = b3 ∧ 24 + nat_lit 1 ≤ 34 ∧ int (IntKind.wrap IntKind.i64 ((↑n : Int) + (1 : Int))) = int (n + 1) ∧ TWk Tryd.prog Γ (fin Tryd.prog Tryd.f16 [] Q) [It.code (sub (bd Tryd.f16) [1, 1, 0, 1, 0]), It.blk 0, It.code (sub (bd Tryd.f16) [1, 1, 1])] { fr := frame 101 [(1, T.ptr 0 b0 0), (2, T.ptr 1 b2 0), (3, T.ptr 2 b3 0), (4, int (n + 1))], ob := [(b0, Ob.cells (frS y (T.sl 3 XM) (T.sl 8 XE))), (b2, Ob.cells zC), (b3, Ob.cells (frS y (T.slx 3 3 (D ++ [T.agg [u8 (Mem.n a), u8 (Mem.l a), bool (Mem.r a)]]) x) (T.v nilS))), (0, Ob.room 3 98 (List.length (D ++ [T.agg [u8 (Mem.n a), u8 (Mem.l a), bool (Mem.r a)]])) x)], gl := fun x => none }) (TWk Tryd.prog Γ (fin Tryd.prog Tryd.f16 [] Q) [It.code (sub (bd Tryd.f16) [1, 1, 1, 0, 1, 0]), It.blk 2, It.code (sub (bd Tryd.f16) [1, 1, 1, 1])] { fr := frame 101 [(1, T.ptr 0 b0 0), (2, T.ptr 1 b2 0), (3, T.ptr 2 b3 0), (5, int 0)], ob := [(b0, Ob.cells (frS y (T.sl 3 XM) (T.sl 8 XE))), (b2, Ob.cells zC), (b3, Ob.cells (frS y (T.slx 3 3 D h) (T.v nilS))), (0, Ob.room 3 98 (List.length D) h)], gl := fun x => none })) (by kernel_rfl) ?_
    repeat' (first | exact rfl | exact Nat.le_of_ble_eq_true rfl | refine And.intro ?_ ?_ | intro _ | refine bsplit_mk (fun _ => ?_) (fun _ => ?_))
    all_goals first
      | exact hat
      | exact n1T (by omega)
      | (exfalso; rename_i hh; rw [hlt2] at hh; cases hh; done)
      | exact nx _
      | exact Int.natCast_nonneg _
      | (simp [maxLen]; omega)
      | omega
      | (clear nx; trace_state)
end
theorem made_any (y : Fm) (hms : y.ms.length ≤ 100) (hes : y.es.length ≤ 100) : TCalls Tryd.prog 16 [.agg (frC y)] [] none_ (callPost (told (.agg (frC (cutF y))) [] [])) := by
  have hQ : callPost (told (.agg (frC (cutF y))) [] []) (.agg (frC (cutF y))) [] none_ := told_post rfl
  generalize callPost (told (.agg (frC (cutF y))) [] []) = Q at *
  have lp : ∀ (Γ : Ctx) (b0 b2 b3 : Nat), TWk Tryd.prog Γ (fin Tryd.prog Tryd.f16 [] Q) [.code (sub (bd Tryd.f16) [1, 1, 0, 1, 0]), .blk 0, .code (sub (bd Tryd.f16) [1, 1, 1])] ⟨frame 101 [(1, .ptr 0 b0 0), (2, .ptr 1 b2 0), (3, .ptr 2 b3 0), (4, int 0)], [(b0, .cells (frC y)), (b2, .cells zC), (b3, .cells (frS y (.v nilS) (.v nilS)))], none_⟩ := fun Γ b0 b2 b3 => by
    have l1 := made_l1 Γ b0 b2 b3 y Q hms hes hQ y.ms [] nilS rfl
    have l1 := TWk.imp (s := ⟨frame 101 [(1, .ptr 0 b0 0), (2, .ptr 1 b2 0), (3, .ptr 2 b3 0), (4, int 0)], [(b0, .cells (frC y)), (b2, .cells zC), (b3, .cells (frS y (.v nilS) (.v nilS))), rmL [] nilS], none_⟩) l1
      (Imp.cell 3 3 (ob := [(b0, .cells (frC y)), (b2, .cells zC), (b3, .cells (frS y (.v nilS) (.v nilS))), rmL [] nilS]) (i := 2) (j := 24) (b := b3) (cs := frS y (.v nilS) (.v nilS)) rfl rfl)
    exact TWk.imp l1 (Imp.room (ob := [(b0, .cells (frC y)), (b2, .cells zC), (b3, .cells (frS y (.v nilS) (.v nilS)))]) 3 98)
  clear hQ
  unfold frC frS at *
  generalize Row.aggs memC y.ms = XM at *
  generalize Row.aggs entC y.es = XE at *
  refine TCalls.of Tryd.func16 rfl (CanCall.of Tryd.func16 rfl (by decide)) [] fun Γ => ?_
  refine run_sound (⟨fun  | _, _ => .no, [((2, 3), ([1, 2, 3, 4], 3))], fun | 5 => some ⟨[], [8, 10], .take true [0,1,2,3,4,5,6] (.one 7 (.one 8 (.take false [9] (.one 10 .done))))⟩ | _ => none⟩) 400 (B := ∀ (b b_1 : Nat), b = b ∧ b = b ∧ b = b ∧ b = b ∧ b = b ∧ b = b ∧ b = b ∧ b = b ∧ b = b ∧ b = b ∧ b = b ∧ b = b ∧ b = b ∧ b = b ∧ b = b ∧ b = b ∧ b = b ∧ b = b ∧ b = b ∧ b = b ∧ b = b ∧ ∀ (b_2 : Nat), (34 = nat_lit 34 ∧ List.all (frS y (T.v nilS) (T.v nilS)) T.one = true) ∧ b_2 = b_2 ∧ 0 + nat_lit 34 ≤ 34 ∧ TWk Tryd.prog Γ (fin Tryd.prog Tryd.f16 [] Q) [It.code (sub (bd Tryd.f16) [1, 1, 0, 1, 0]), It.blk 0, It.code (sub (bd Tryd.f16) [1, 1, 1])] { fr := frame 101 [(1, T.ptr 0 b 0), (2, T.ptr 1 b_1 0), (3, T.ptr 2 b_2 0), (4, int 0)], ob := [(b, Ob.cells (frS y (T.sl 3 XM) (T.sl 8 XE))), (b_1, Ob.cells zC), (b_2, Ob.cells (frS y (T.v nilS) (T.v nilS)))], gl := fun x => none }) (by kernel_rfl) ?_
  repeat' (first | exact rfl | exact Nat.le_of_ble_eq_true rfl | refine And.intro ?_ ?_ | intro _ | refine bsplit_mk (fun _ => ?_) (fun _ => ?_))
  all_goals first
    | exact lp _ _ _ _
    | trace_state
end X6
end Go.Proofs.YtaepgceodcdnhaaDoor.Vm
/- Frames: plain, bounds. No program is named here. -/
namespace Go.Proofs.YtaepgceodcdnhaaDoor.Frm
/-- a frame whose numbers lie within their sizes; its text and its lists may be of any length -/
structure FmIn (f : Fm) : Prop where
  kind : f.kind < 256
  frm : f.frm < 256
  to : f.to < 256
  ep : f.ep < 4294967296
  key : f.key < 256
  sn : f.sn < 4294967296
  sb : f.sb < 256
  sl : f.sl < 256
  dir : f.dir < 256
  life : f.life < 256
  req : f.req < 4294967296
  bn : f.bn < 4294967296
  bb : f.bb < 256
  slot : f.slot < 4294967296
  c : f.c.Ok
  ve : f.ve < 4294967296
  mo : ∀ m ∈ f.ms, m.Ok
  lv : f.lv.Ok
  eo : ∀ x ∈ f.es, x.Ok
def cut40 (f : Fm) : Fm := { f with x := f.x.take 40, ms := f.ms.take 10, es := f.es.take 18 }
theorem FmIn.cut {f : Fm} (h : FmIn f) : (cut40 f).Ok where
  kind := h.kind
  frm := h.frm
  to := h.to
  ep := h.ep
  key := h.key
  sn := h.sn
  sb := h.sb
  sl := h.sl
  x := by show (f.x.take 40).length ≤ _; rw [List.length_take]; omega
  dir := h.dir
  life := h.life
  req := h.req
  bn := h.bn
  bb := h.bb
  slot := h.slot
  c := h.c
  ve := h.ve
  ms := by show (f.ms.take 10).length ≤ _; rw [List.length_take]; omega
  mo := fun m hm => h.mo m (List.mem_of_mem_take hm)
  lv := h.lv
  es := by show (f.es.take 18).length ≤ _; rw [List.length_take]; omega
  eo := fun m hm => h.eo m (List.mem_of_mem_take hm)
theorem cntN_le (most : Nat) (s : RS) (h : s.e = 0 ∨ s.e = 2) : cntN most s ≤ most := by
  unfold cntN
  split
  · exact Nat.zero_le _
  · rename_i hw
    by_cases g : rnum 1 s ≤ most
    · exact g
    · exfalso
      apply hw
      have he := takeL_err (l := s.l) (e := s.e) (f := 0) (n := (1 : Nat)) (by omega) h
      unfold wrong cntS must
      rw [decide_eq_false g]
      by_cases e2 : (rgo 1 s).e = 2
      · rw [if_neg (fun k => k.2 e2), e2]; simp
      · rw [if_pos ⟨rfl, e2⟩]; rfl
structure Sml (f : Fm) : Prop where
  ms : f.ms.length ≤ 8
  es : f.es.length ≤ 16
theorem fldR_sml {f : Fm} (h : Sml f) (c : Nat) {s : RS} (hs : s.Ok) : Sml (fldR c s f).1 := by
  unfold fldR
  by_cases e : c = 101
  · rw [if_pos e]; exact ⟨h.ms, h.es⟩
  rw [if_neg e]; clear e
  by_cases e : c = 107
  · rw [if_pos e]; exact ⟨h.ms, h.es⟩
  rw [if_neg e]; clear e
  by_cases e : c = 115
  · rw [if_pos e]; exact ⟨h.ms, h.es⟩
  rw [if_neg e]; clear e
  by_cases e : c = 118
  · rw [if_pos e]; exact ⟨h.ms, h.es⟩
  rw [if_neg e]; clear e
  by_cases e : c = 114
  · rw [if_pos e]; exact ⟨h.ms, h.es⟩
  rw [if_neg e]; clear e
  by_cases e : c = 102
  · rw [if_pos e]; exact ⟨h.ms, h.es⟩
  rw [if_neg e]; clear e
  by_cases e : c = 100
  · rw [if_pos e]; exact ⟨h.ms, h.es⟩
  rw [if_neg e]; clear e
  by_cases e : c = 108
  · rw [if_pos e]; exact ⟨h.ms, h.es⟩
  rw [if_neg e]; clear e
  by_cases e : c = 113
  · rw [if_pos e]; exact ⟨h.ms, h.es⟩
  rw [if_neg e]; clear e
  by_cases e : c = 98
  · rw [if_pos e]; exact ⟨h.ms, h.es⟩
  rw [if_neg e]; clear e
  by_cases e : c = 110
  · rw [if_pos e]; exact ⟨h.ms, h.es⟩
  rw [if_neg e]; clear e
  by_cases e : c = 99
  · rw [if_pos e]; exact ⟨h.ms, h.es⟩
  rw [if_neg e]; clear e
  by_cases e : c = 119
  · rw [if_pos e]
    refine ⟨?_, h.es⟩
    show (viewR s).1.2.1.length ≤ 8
    have h1 : (viewR s).1.2.1 = (memsR (cntN 8 (rgo 4 s)) (cntS 8 (rgo 4 s))).1 := by
      unfold viewR; dsimp only; split <;> rfl
    rw [h1]
    exact Nat.le_trans (mems_len _ _) (cntN_le 8 _ (hs.go 4).e)
  rw [if_neg e]
  exact ⟨h.ms, Nat.le_trans (ents_len _ _) (cntN_le 16 _ hs.e)⟩
theorem fldsR_sml : ∀ (cs : List Nat) {f : Fm} {s : RS}, Sml f → s.Ok → Sml (fldsR cs s f).1
  | [], _, _, h, _ => h
  | c :: cs, f, s, h, hs => by
    unfold fldsR
    split
    · exact h
    · exact fldsR_sml cs (fldR_sml h c hs) (hs.fld c f)
theorem decR_sml (l : List UInt8) (hl : l.length ≤ 1000000000) : Sml (decR l).1 := by
  have z : Sml fm0 := ⟨Nat.zero_le _, Nat.zero_le _⟩
  have hb : (l.take (l.length - 4)).length ≤ 1000000000 := by rw [List.length_take]; omega
  unfold decR
  split
  · exact z
  · unfold decB
    split
    · exact z
    · split
      · exact z
      · have h0 : (RS.mk (l.take (l.length - 4)) 0 false).Ok := ⟨hb, .inl rfl⟩
        exact fldsR_sml _ (f := hdF (l.take (l.length - 4))) ⟨Nat.zero_le _, Nat.zero_le _⟩ ((((h0.go 1).go 1).go 1).must _)
end Go.Proofs.YtaepgceodcdnhaaDoor.Frm
/- Frames by the engine: FrameCodes. -/
namespace Go.Proofs.YtaepgceodcdnhaaDoor.Vm
open Go Go.RowKit
set_option maxRecDepth 100000
namespace X6
open Frm (Cmd Mem Ent Lvs Fm FmIn cut40 restr decR)
theorem enc_len (f : Fm) (hf : f.Ok) : f.enc.1.length ≤ 10000 := by
  unfold Frm.Fm.enc
  split
  · rename_i hg
    unfold Frm.Fm.good at hg
    rw [Bool.and_eq_true, List.all_eq_true] at hg
    have hfl := Frm.flat_le (f := f.fb) (Frm.lets f.kind) (fun c hc => fb_len hf c (hg.2 c hc))
    have hl6 := Frm.lets_len f.kind
    have hhb : f.hb.length = 3 := by unfold Frm.Fm.hb; simp [Oct.length_be]
    show (Crc.sealL (f.hb ++ (Frm.lets f.kind).flatMap f.fb)).length ≤ _
    unfold Crc.sealL
    rw [List.length_append, List.length_append, hhb]
    show 3 + _ + 4 ≤ _
    omega
  · exact Nat.zero_le _
theorem cutF_id {g : Fm} (h1 : g.ms.length ≤ 10) (h2 : g.es.length ≤ 18) : cutF g = g := by
  unfold cutF
  rw [List.take_of_length_le h1, List.take_of_length_le h2]
theorem restr_id {f : Fm} (hf : f.Ok) : cutF (restr f) = restr f := cutF_id (Frm.restr_ok hf).ms (Frm.restr_ok hf).es
theorem codes_tail (Γ : Ctx) (b1 : Nat) (y : Fm) (hf : (cutF y).Ok) (Q : T → Obs → Glb → Prop) (hQ : Q (bool true) obsF none_) :
    TWk Tryd.prog Γ (fin Tryd.prog Tryd.f3 [0] Q) [.code (sub (bd Tryd.f3) [1, 1, 1])] ⟨frame 93 [(1, .ptr 1 b1 0)], [(0, .fix fixF), (b1, .cells (frC y))], none_⟩ := by
  have t1 := told_any y
  have c1 := enc_any (cutF y) hf
  have c2 := renc_any (cutF y) hf
  have hlen := enc_len (cutF y) hf
  by_cases hg : (cutF y).good = true
  · have he : (cutF y).enc = (Crc.sealL (cutF y).bytes, 0) := by unfold Frm.Fm.enc; rw [if_pos hg]
    have hd := Frm.dec_enc hf hg
    have hk : Frm.hasKind (cutF y).kind = true := by
      unfold Frm.Fm.good at hg
      rw [Bool.and_eq_true] at hg; exact hg.1
    have hre := Frm.restr_enc hk
    have hro := Frm.restr_ok hf
    have c5 := enc_any (restr (cutF y)) hro
    have c6 := made_any (restr (cutF y)) (by have := hro.ms; omega) (by have := hro.es; omega)
    have c7 := fsame_any (restr (cutF y)) (restr (cutF y)) (by have := hro.ms; omega) (by have := hro.es; omega)
    rw [decide_eq_true rfl] at c7
    rw [restr_id hf] at c6
    unfold encT at c1 c5
    unfold rencT at c2
    rw [hre] at c5
    rw [he] at c1 c2 c5 hlen
    have hlen : (Crc.sealL (cutF y).bytes).length ≤ 10000 := hlen
    rw [hg] at c2
    have c3 := dec_post (Crc.sealL (cutF y).bytes) (by omega)
    have c4 := rdec_any (Crc.sealL (cutF y).bytes) (by omega)
    rw [hd] at c3 c4
    have hdT : decT (restr (cutF y), 0) = .tup [.agg (frC (restr (cutF y))), int 0] := rfl
    rw [hdT] at c3 c4
    clear he hd hk hre hro hlen hdT hg hf
    generalize restr (cutF y) = g at *
    generalize Crc.sealL (cutF y).bytes = S at *
    generalize cutF y = f at *
    have hss : decide ((⟨S.toArray⟩ : ByteArray) = ⟨S.toArray⟩) = true := decide_eq_true rfl
    unfold obsF at *
    generalize fixF = F at *
    unfold frC at *
    generalize Row.aggs memC y.ms = M1 at *
    generalize Row.aggs entC y.es = E1 at *
    generalize Row.aggs memC f.ms = M2 at *
    generalize Row.aggs entC f.es = E2 at *
    generalize Row.aggs memC g.ms = M3 at *
    generalize Row.aggs entC g.es = E3 at *
    refine run_sound (⟨fun | 4, 1 => told (.tup [.agg (frS f (.sl 3 M2) (.sl 8 E2)), .agg (frS f (.sl 3 M2) (.sl 8 E2))]) [] [] | 5, 1 => told (.tup [str S, int 0]) [0] [(0, .fix F)] | 6, 1 => told (.tup [str S, bool true]) [] [] | 9, 1 => told (.tup [.agg (frS g (.sl 3 M3) (.sl 8 E3)), int 0]) [0] [(0, .fix F)] | 10, 1 => told (.tup [.agg (frS g (.sl 3 M3) (.sl 8 E3)), int 0]) [] [] | 11, 1 => told (.tup [str S, int 0]) [0] [(0, .fix F)] | 12, 18 => told (.agg (frS g (.sl 3 M3) (.sl 8 E3))) [] [] | 12, 19 => told (bool true) [] [] | _, _ => .no, [], fun | 12 => some ⟨[4, 5], [19], .take true [0,1,2,3,4,5,6,7,8,9,10,11,12,13,14,15,16,17] (.one 18 (.one 19 (.take false [20,21,22,23,24,25,26,27,28,29,30] .done)))⟩ | _ => none⟩) 400 (B := b1 = b1 ∧ TCalls Tryd.prog 10 [T.agg (frS y (T.sl 3 M1) (T.sl 8 E1))] [] none_ (callPost (Hint.call false Unit (fun x => True) [] false (fun x => T.tup [T.agg (frS f (T.sl 3 M2) (T.sl 8 E2)), T.agg (frS f (T.sl 3 M2) (T.sl 8 E2))]) (fun x => []) fun x => none_)) ∧ ∀ (a : Unit), True → ∀ (b b_1 : Nat), (34 = nat_lit 34 ∧ List.all (frS f (T.sl 3 M2) (T.sl 8 E2)) T.one = true) ∧ b = b ∧ 0 + nat_lit 34 ≤ 34 ∧ (34 = nat_lit 34 ∧ List.all (frS f (T.sl 3 M2) (T.sl 8 E2)) T.one = true) ∧ b_1 = b_1 ∧ 0 + nat_lit 34 ≤ 34 ∧ b = b ∧ TCalls Tryd.prog 11 [T.agg (frS f (T.sl 3 M2) (T.sl 8 E2))] [(0, Ob.fix F)] none_ (callPost (Hint.call false Unit (fun x => True) [0] false (fun x => T.tup [str S, int 0]) (fun x => [(0, Ob.fix F)]) fun x => none_)) ∧ ∀ (a : Unit), True → b_1 = b_1 ∧ TCalls Tryd.prog 12 [T.agg (frS f (T.sl 3 M2) (T.sl 8 E2))] [] none_ (callPost (Hint.call false Unit (fun x => True) [] false (fun x => T.tup [str S, bool true]) (fun x => []) fun x => none_)) ∧ ∀ (a : Unit), True → TCalls Tryd.prog 13 [str S] [(0, Ob.fix F)] none_ (callPost (Hint.call false Unit (fun x => True) [0] false (fun x => T.tup [T.agg (frS g (T.sl 3 M3) (T.sl 8 E3)), int 0]) (fun x => [(0, Ob.fix F)]) fun x => none_)) ∧ ∀ (a : Unit), True → ∀ (b : Nat), (34 = nat_lit 34 ∧ List.all (frS g (T.sl 3 M3) (T.sl 8 E3)) T.one = true) ∧ b = b ∧ 0 + nat_lit 34 ≤ 34 ∧ TCalls Tryd.prog 14 [str S] [] none_ (callPost (Hint.call false Unit (fun x => True) [] false (fun x => T.tup [T.agg (frS g (T.sl 3 M3) (T.sl 8 E3)), int 0]) (fun x => []) fun x => none_)) ∧ ∀ (a : Unit), True → ∀ (b_2 : Nat), (34 = nat_lit 34 ∧ List.all (frS g (T.sl 3 M3) (T.sl 8 E3)) T.one = true) ∧ b_2 = b_2 ∧ 0 + nat_lit 34 ≤ 34 ∧ b = b ∧ TCalls Tryd.prog 11 [T.agg (frS g (T.sl 3 M3) (T.sl 8 E3))] [(0, Ob.fix F)] none_ (callPost (Hint.call false Unit (fun x => True) [0] false (fun x => T.tup [str S, int 0]) (fun x => [(0, Ob.fix F)]) fun x => none_)) ∧ ∀ (a : Unit), True → bsplit (decide ((ByteArray.mk (List.toArray S)) = (ByteArray.mk (List.toArray S)))) (b = b ∧ b_2 = b_2 ∧ TCalls Tryd.prog 16 [T.agg (frS g (T.sl 3 M3) (T.sl 8 E3))] [] none_ (callPost (Hint.call false Unit (fun x => True) [] false (fun x => T.agg (frS g (T.sl 3 M3) (T.sl 8 E3))) (fun x => []) fun x => none_)) ∧ ∀ (a : Unit), True → TCalls Tryd.prog 15 [T.agg (frS g (T.sl 3 M3) (T.sl 8 E3)), T.agg (frS g (T.sl 3 M3) (T.sl 8 E3))] [] none_ (callPost (Hint.call false Unit (fun x => True) [] false (fun x => bool true) (fun x => []) fun x => none_)) ∧ ∀ (a : Unit), True → Q (bool (decide ((ByteArray.mk (List.toArray S)) = (ByteArray.mk (List.toArray S))))) [(0, Ob.fix F)] fun x => none) (Q (bool false) [(0, Ob.fix F)] fun x => none)) (by kernel_rfl) ?_
    repeat' (first | exact rfl | exact Nat.le_of_ble_eq_true rfl | refine And.intro ?_ ?_ | intro _ | refine bsplit_mk (fun _ => ?_) (fun _ => ?_))
    all_goals first
      | exact t1
      | exact c1
      | exact c2
      | exact c3
      | exact c4
      | exact c5
      | exact c6
      | exact c7
      | exact hQ
      | (rw [hss]; exact hQ)
      | (exfalso; rename_i h; rw [hss] at h; cases h; done)
      | (clear t1 c1 c2 c3 c4 c5 c6 c7; trace_state)
  · have he : (cutF y).enc = ([], 4) := by unfold Frm.Fm.enc; rw [if_neg hg]
    have hg : (cutF y).good = false := by simpa using hg
    unfold encT at c1
    unfold rencT at c2
    rw [he] at c1 c2
    rw [hg] at c2
    clear he hlen hf hg
    generalize cutF y = f at *
    unfold obsF at *
    generalize fixF = F at *
    unfold frC at *
    generalize Row.aggs memC y.ms = M1 at *
    generalize Row.aggs entC y.es = E1 at *
    generalize Row.aggs memC f.ms = M2 at *
    generalize Row.aggs entC f.es = E2 at *
    refine run_sound (⟨fun | 4, 1 => told (.tup [.agg (frS f (.sl 3 M2) (.sl 8 E2)), .agg (frS f (.sl 3 M2) (.sl 8 E2))]) [] [] | 5, 1 => told (.tup [str [], int 4]) [0] [(0, .fix F)] | 6, 1 => told (.tup [str [], bool false]) [] [] | _, _ => .no, [], fun | 12 => some ⟨[4, 5], [19], .take true [0,1,2,3,4,5,6,7,8,9,10,11,12,13,14,15,16,17] (.one 18 (.one 19 (.take false [20,21,22,23,24,25,26,27,28,29,30] .done)))⟩ | _ => none⟩) 400 (B := b1 = b1 ∧ TCalls Tryd.prog 10 [T.agg (frS y (T.sl 3 M1) (T.sl 8 E1))] [] none_ (callPost (Hint.call false Unit (fun x => True) [] false (fun x => T.tup [T.agg (frS f (T.sl 3 M2) (T.sl 8 E2)), T.agg (frS f (T.sl 3 M2) (T.sl 8 E2))]) (fun x => []) fun x => none_)) ∧ ∀ (a : Unit), True → ∀ (b b_1 : Nat), (34 = nat_lit 34 ∧ List.all (frS f (T.sl 3 M2) (T.sl 8 E2)) T.one = true) ∧ b = b ∧ 0 + nat_lit 34 ≤ 34 ∧ (34 = nat_lit 34 ∧ List.all (frS f (T.sl 3 M2) (T.sl 8 E2)) T.one = true) ∧ b_1 = b_1 ∧ 0 + nat_lit 34 ≤ 34 ∧ b = b ∧ TCalls Tryd.prog 11 [T.agg (frS f (T.sl 3 M2) (T.sl 8 E2))] [(0, Ob.fix F)] none_ (callPost (Hint.call false Unit (fun x => True) [0] false (fun x => T.tup [str [], int 4]) (fun x => [(0, Ob.fix F)]) fun x => none_)) ∧ ∀ (a : Unit), True → b_1 = b_1 ∧ TCalls Tryd.prog 12 [T.agg (frS f (T.sl 3 M2) (T.sl 8 E2))] [] none_ (callPost (Hint.call false Unit (fun x => True) [] false (fun x => T.tup [str [], bool false]) (fun x => []) fun x => none_)) ∧ ∀ (a : Unit), True → Q (bool true) [(0, Ob.fix F)] fun x => none) (by kernel_rfl) ?_
    repeat' (first | exact rfl | exact Nat.le_of_ble_eq_true rfl | refine And.intro ?_ ?_ | intro _ | refine bsplit_mk (fun _ => ?_) (fun _ => ?_))
    all_goals first
      | exact t1
      | exact c1
      | exact c2
      | exact hQ
      | (clear t1 c1 c2; trace_state)
theorem codes_any (x : Fm) (hx : FmIn x) (Q : T → Obs → Glb → Prop) (hQ : Q (bool true) obsF none_) : TCalls Tryd.prog 3 [.agg (frC x)] obsF none_ Q := by
  have sp := speaks_any
  have hsz : (⟨x.x.toArray⟩ : ByteArray).size = x.x.length := by show x.x.toArray.size = _; simp
  have hcut : T.v (.string ((⟨x.x.toArray⟩ : ByteArray).extract (((0 : Nat) : Int)).toNat (if (40 : Int) < (((⟨x.x.toArray⟩ : ByteArray).size : Nat) : Int) then (40 : Int) else (((⟨x.x.toArray⟩ : ByteArray).size : Nat) : Int)).toNat)) = str (x.x.take 40) := by
    rw [hsz, X1.str_cut]
    refine congrArg str ?_
    show (x.x.take _).drop 0 = _
    rw [List.drop_zero]
    by_cases g : (40 : Int) < ((x.x.length : Nat) : Int)
    · rw [if_pos g]; rfl
    · rw [if_neg g, List.take_of_length_le (by omega), List.take_of_length_le (by omega)]
  have tl := fun (Γ : Ctx) (b1 : Nat) => codes_tail Γ b1 { x with x := x.x.take 40 } hx.cut Q hQ
  have tl : ∀ (Γ : Ctx) (b1 : Nat) (t : T), t = str (x.x.take 40) → TWk Tryd.prog Γ (fin Tryd.prog Tryd.f3 [0] Q) [.code (sub (bd Tryd.f3) [1, 1, 1])] ⟨frame 93 [(1, .ptr 1 b1 0)], [(0, .fix fixF), (b1, .cells ((frC x).set 9 t))], none_⟩ := fun Γ b1 t h => by
    subst h; exact tl Γ b1
  clear hQ hx
  unfold obsF at sp ⊢
  generalize fixF = F at *
  unfold frC at *
  generalize Row.aggs memC x.ms = M1 at *
  generalize Row.aggs entC x.es = E1 at *
  refine TCalls.of Tryd.func3 rfl (CanCall.of Tryd.func3 rfl (by decide)) [0] fun Γ => ?_
  refine run_sound (⟨fun | 1, 0 => told (bool true) [0] [(0, .fix F)] | _, _ => .no, [((0, 4), ([1], 2))], fun | 12 => some ⟨[], [19], .take true [0,1,2,3,4,5,6,7,8,9,10,11,12,13,14,15,16,17] (.one 18 (.one 19 (.take false [20,21,22,23,24,25,26,27,28,29,30] .done)))⟩ | _ => none⟩) 400 (B := ∀ (b : Nat), TCalls Tryd.prog 9 [] [(0, Ob.fix F)] none_ (callPost (Hint.call false Unit (fun x => True) [0] false (fun x => bool true) (fun x => [(0, Ob.fix F)]) fun x => none_)) ∧ ∀ (a : Unit), True → b = b ∧ b = b ∧ ((0 : Int) ≤ (↑(0 : Nat) : Int) ∧ (↑(0 : Nat) : Int) ≤ Prod.snd (IntKind.i64, if (40 : Int) < (↑(ByteArray.size (ByteArray.mk (List.toArray (Fm.x x)))) : Int) then (40 : Int) else (↑(ByteArray.size (ByteArray.mk (List.toArray (Fm.x x)))) : Int)) ∧ Prod.snd (IntKind.i64, if (40 : Int) < (↑(ByteArray.size (ByteArray.mk (List.toArray (Fm.x x)))) : Int) then (40 : Int) else (↑(ByteArray.size (ByteArray.mk (List.toArray (Fm.x x)))) : Int)) ≤ (↑(ByteArray.size (ByteArray.mk (List.toArray (Fm.x x)))) : Int)) ∧ (1 = nat_lit 1 ∧ List.all (List.map T.v (Array.toList #[Value.string (ByteArray.extract (ByteArray.mk (List.toArray (Fm.x x))) (Int.toNat (↑(0 : Nat) : Int)) (Int.toNat (Prod.snd (IntKind.i64, if (40 : Int) < (↑(ByteArray.size (ByteArray.mk (List.toArray (Fm.x x)))) : Int) then (40 : Int) else (↑(ByteArray.size (ByteArray.mk (List.toArray (Fm.x x)))) : Int)))))])) T.one = true) ∧ b = b ∧ 9 + nat_lit 1 ≤ 34 ∧ TWk Tryd.prog Γ (fin Tryd.prog Tryd.f3 [0] Q) [It.code (sub (bd Tryd.f3) [1, 1, 1])] { fr := frame 93 [(1, T.ptr 1 b 0)], ob := [(0, Ob.fix F), (b, Ob.cells (List.set (frS x (T.sl 3 M1) (T.sl 8 E1)) 9 (T.v (Value.string (ByteArray.extract (ByteArray.mk (List.toArray (Fm.x x))) (Int.toNat (↑(0 : Nat) : Int)) (Int.toNat (Prod.snd (IntKind.i64, if (40 : Int) < (↑(ByteArray.size (ByteArray.mk (List.toArray (Fm.x x)))) : Int) then (40 : Int) else (↑(ByteArray.size (ByteArray.mk (List.toArray (Fm.x x)))) : Int)))))))))], gl := fun x => none }) (by kernel_rfl) ?_
  repeat' (first | exact rfl | exact Nat.le_of_ble_eq_true rfl | refine And.intro ?_ ?_ | intro _ | refine bsplit_mk (fun _ => ?_) (fun _ => ?_))
  all_goals first
    | exact sp
    | exact tl Γ _ _ hcut
    | (show (0 : Int) ≤ 0; decide)
    | (show (0 : Int) ≤ (if (40 : Int) < (((⟨x.x.toArray⟩ : ByteArray).size : Nat) : Int) then (40 : Int) else (((⟨x.x.toArray⟩ : ByteArray).size : Nat) : Int)); split <;> omega)
    | (show (if (40 : Int) < (((⟨x.x.toArray⟩ : ByteArray).size : Nat) : Int) then (40 : Int) else (((⟨x.x.toArray⟩ : ByteArray).size : Nat) : Int)) ≤ (((⟨x.x.toArray⟩ : ByteArray).size : Nat) : Int); split <;> omega)
    | (clear tl; trace_state)
end X6
end Go.Proofs.YtaepgceodcdnhaaDoor.Vm
