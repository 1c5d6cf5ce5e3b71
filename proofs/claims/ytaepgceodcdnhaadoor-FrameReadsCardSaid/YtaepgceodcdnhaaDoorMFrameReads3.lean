/- Texts of this claim, one behind the other: FX, FW, Frm5, FZ. -/
import Derived.Test.YtaepgceodcdnhaaDoorMFrameReads2
/- Frames by the engine: the document's Decode, joined. -/
namespace Go.Proofs.YtaepgceodcdnhaaDoor.Vm
open Go Go.RowKit
set_option maxRecDepth 100000
namespace X6
open Frm (Cmd Mem Ent Lvs Fm Z zgo znum zmust zfld zflds zfin zend lets fm0 zhd zhdZ zbody zdecB decR decB openE)
theorem rdec_any (l : List UInt8) (hl : l.length ≤ 1000000000) : TCalls Tryd.prog 14 [str l] [] none_ (callPost (told (decT (decR l)) [] [])) := by
  have hQ : ∀ y, y = decT (decR l) → callPost (told (decT (decR l)) [] []) y [] none_ := fun y h => told_post h
  generalize callPost (told (decT (decR l)) [] []) = Q at *
  have hsz : (⟨l.toArray⟩ : ByteArray).size = l.length := by show l.toArray.size = _; simp
  have hw : T.v (.int .i64 (IntKind.wrap .i64 (((⟨l.toArray⟩ : ByteArray).size : Int) - 4))) = int ((l.length : Int) - 4) := congrArg int (by rw [hsz, wrap_i64 (by omega) (by omega)])
  by_cases h4 : l.length < 4
  · have e : openE l = 2 := by unfold Frm.openE; rw [if_pos h4]
    have hQ : Q (.tup [.agg zC, int 2]) [] none_ := hQ _ (by unfold Frm.decR; rw [e]; rfl)
    refine TCalls.of Tryd.func14 rfl (CanCall.of Tryd.func14 rfl (by decide)) [] fun Γ => ?_
    refine run_sound (⟨fun | 3, 3 => .res (int ((l.length : Int) - 4)) | _, _ => .no, [((0, 3), ([0, 2], 1))], fun | 17 => some ⟨[], [5, 9, 10], .take true [0,1,2,3,4] (.one 5 (.take false [6,7,8] (.one 9 (.one 10 .done))))⟩ | 21 => some ⟨[], [], .take true [0,1,2] (.one 3 (.take true [4] .done))⟩ | _ => none⟩) 400 (B := ∀ (b : Nat), bsplit (decide ((↑(ByteArray.size (ByteArray.mk (List.toArray l))) : Int) < (4 : Int))) ((34 = nat_lit 34 ∧ List.all zC T.one = true) ∧ b = b ∧ 0 + nat_lit 34 ≤ 34 ∧ b = b ∧ Q (T.tup [T.agg zC, int 2]) [] fun x => none) (TWk Tryd.prog Γ (fin Tryd.prog Tryd.f14 [] Q) [It.code (sub (bd Tryd.f14) [1, 1])] { fr := frame 100 [(0, str l), (2, T.ptr 0 b 0)], ob := [(b, Ob.cells zC)], gl := fun x => none })) (by kernel_rfl) ?_
    repeat' (first | exact rfl | exact Nat.le_of_ble_eq_true rfl | refine And.intro ?_ ?_ | intro _ | refine bsplit_mk (fun _ => ?_) (fun _ => ?_))
    all_goals first
      | exact hQ
      | (exfalso; simp only [decide_eq_false_iff_not, hsz] at *; omega)
      | trace_state
  · have hcut : T.v (.string ((⟨l.toArray⟩ : ByteArray).extract 0 ((l.length : Int) - 4).toNat)) = str (l.take (l.length - 4)) := by
      rw [X1.str_cut, show ((l.length : Int) - 4).toNat = l.length - 4 by omega]; rfl
    have hs := X2.rseal_any (l.take (l.length - 4)) (by rw [List.length_take]; omega) _ (fun x h => told_post (sel := []) (ob := []) h)
    have hbl : (l.take (l.length - 4)).length ≤ 1000000000 := by rw [List.length_take]; omega
    have hE : openE l = if Crc.sealL (l.take (l.length - 4)) ≠ l then 5 else 0 := by unfold Frm.openE; rw [if_neg h4]
    have hs' : TCalls Tryd.prog 37 [T.v (.string ((⟨l.toArray⟩ : ByteArray).extract (((0 : Nat) : Int)).toNat ((IntKind.i64, (l.length : Int) - 4).snd.toNat)))] [] none_ (callPost (told (str (Crc.sealL (l.take (l.length - 4)))) [] [])) := by rw [show T.v (.string ((⟨l.toArray⟩ : ByteArray).extract (((0 : Nat) : Int)).toNat ((IntKind.i64, (l.length : Int) - 4).snd.toNat))) = str (l.take (l.length - 4)) from hcut]; exact hs
    by_cases hb : Crc.sealL (l.take (l.length - 4)) = l
    · have hz : (Z.mk (l.take (l.length - 4)) 0 0).Ok := ⟨hbl, Nat.zero_le _⟩
      have hQ : Q (decT (zdecB (l.take (l.length - 4)))) [] none_ := hQ _ (by
        unfold Frm.decR
        rw [show openE l = 0 from hE.trans (if_neg (fun h => h hb)), if_neg (fun h => h rfl), Frm.zdec_eq])
      rw [hb] at hs hs'
      have s1 := rnum_post _ hz 1 (by decide)
      have s2 := rnum_post _ (hz.go 1) 1 (by decide)
      have s3 := rnum_post _ ((hz.go 1).go 1) 1 (by decide)
      have s4 := fun w => rmst_post (zgo 1 (zgo 1 (zgo 1 ⟨l.take (l.length - 4), 0, 0⟩))) w
      have k1 := w8 (Frm.znum1_lt ⟨l.take (l.length - 4), 0, 0⟩)
      have k2 := w8 (Frm.znum1_lt (zgo 1 ⟨l.take (l.length - 4), 0, 0⟩))
      have k3 := w8 (Frm.znum1_lt (zgo 1 (zgo 1 ⟨l.take (l.length - 4), 0, 0⟩)))
      have hf := rfields_post (znum 1 ⟨l.take (l.length - 4), 0, 0⟩) (Frm.znum1_lt _)
      have hne := strne (letS (lets (znum 1 ⟨l.take (l.length - 4), 0, 0⟩)))
      have hw2 : (!decide ((⟨(letS (lets (znum 1 ⟨l.take (l.length - 4), 0, 0⟩))).toArray⟩ : ByteArray) = ByteArray.mk #[])) = decide (lets (znum 1 ⟨l.take (l.length - 4), 0, 0⟩) ≠ []) := by
        rw [hne]
        have : (letS (lets (znum 1 ⟨l.take (l.length - 4), 0, 0⟩)) = []) ↔ (lets (znum 1 ⟨l.take (l.length - 4), 0, 0⟩) = []) := by unfold letS; exact List.map_eq_nil_iff
        simp only [this, ne_eq, decide_not]
      have lp : ∀ (Γ : Ctx) (b1 b4 b5 : Nat), TWk Tryd.prog Γ (fin Tryd.prog Tryd.f14 [] Q) [.code (sub (bd Tryd.f14) [1, 1, 1, 1, 1, 1, 1, 1, 1, 1, 1, 1, 0, 1, 0]), .blk 0, .code (sub (bd Tryd.f14) [1, 1, 1, 1, 1, 1, 1, 1, 1, 1, 1, 1, 1])] ⟨frame 100 [(2, .ptr 0 b1 0), (4, .ptr 1 b4 0), (5, .ptr 2 b5 0), (9, .v (.string ⟨(letS (lets (znum 1 ⟨l.take (l.length - 4), 0, 0⟩))).toArray⟩)), (10, int 0)], [(b1, .cells zC), (b4, .cells (stC (zmust (!decide ((⟨(letS (lets (znum 1 ⟨l.take (l.length - 4), 0, 0⟩))).toArray⟩ : ByteArray) = ByteArray.mk #[])) (zgo 1 (zgo 1 (zgo 1 ⟨l.take (l.length - 4), 0, 0⟩)))))), (b5, .cells (hdC (znum 1 ⟨l.take (l.length - 4), 0, 0⟩) (znum 1 (zgo 1 ⟨l.take (l.length - 4), 0, 0⟩)) (znum 1 (zgo 1 (zgo 1 ⟨l.take (l.length - 4), 0, 0⟩)))))], none_⟩ := fun Γ b1 b4 b5 => by
        rw [hw2]
        exact rdec_loop Γ b1 b4 b5 Q (zhd (l.take (l.length - 4))).kind (lets (zhd (l.take (l.length - 4))).kind) [] (zhdZ (l.take (l.length - 4))) (zhd (l.take (l.length - 4))) ((((hz.go 1).go 1).go 1).must _) rfl rfl rfl hQ
      have hzz : str (letS (lets (znum 1 ⟨l.take (l.length - 4), 0, 0⟩))) = .v (.string ⟨(letS (lets (znum 1 ⟨l.take (l.length - 4), 0, 0⟩))).toArray⟩) := rfl
      rw [hzz] at hf
      have s1 : TCalls Tryd.prog 45 [.agg [T.v (.string ((⟨l.toArray⟩ : ByteArray).extract (((0 : Nat) : Int)).toNat ((IntKind.i64, (l.length : Int) - 4).snd.toNat))), int ((0 : Nat) : Int), int 0], int ((1 : Nat) : Int)] [] none_ (callPost (told (.tup [.agg (stC (zgo 1 ⟨l.take (l.length - 4), 0, 0⟩)), u32 (znum 1 ⟨l.take (l.length - 4), 0, 0⟩)]) [] [])) := by rw [show T.v (.string ((⟨l.toArray⟩ : ByteArray).extract (((0 : Nat) : Int)).toNat ((IntKind.i64, (l.length : Int) - 4).snd.toNat))) = str (l.take (l.length - 4)) from hcut]; exact s1
      clear hQ hz hw2 hne hzz hs hE
      generalize (⟨(letS (lets (znum 1 ⟨l.take (l.length - 4), 0, 0⟩))).toArray⟩ : ByteArray) = zz at *
      generalize zgo 1 (zgo 1 (zgo 1 ⟨l.take (l.length - 4), 0, 0⟩)) = z3 at *
      generalize znum 1 (zgo 1 (zgo 1 ⟨l.take (l.length - 4), 0, 0⟩)) = n3 at *
      generalize zgo 1 (zgo 1 ⟨l.take (l.length - 4), 0, 0⟩) = z2 at *
      generalize znum 1 (zgo 1 ⟨l.take (l.length - 4), 0, 0⟩) = n2 at *
      generalize zgo 1 ⟨l.take (l.length - 4), 0, 0⟩ = z1 at *
      generalize znum 1 ⟨l.take (l.length - 4), 0, 0⟩ = n1 at *
      have hnn : (!decide ((⟨l.toArray⟩ : ByteArray) = ⟨l.toArray⟩)) = false := by rw [decide_eq_true rfl]; rfl
      unfold stC at *
      refine TCalls.of Tryd.func14 rfl (CanCall.of Tryd.func14 rfl (by decide)) [] fun Γ => ?_
      refine run_sound (⟨fun | 3, 3 => .res (int ((l.length : Int) - 4)) | 3, 5 => told (str l) [] [] | 5, 3 => .res (int ((l.length : Int) - 4)) | 8, 1 => told (.tup [.agg [str z1.s, int (z1.a : Nat), int z1.e], u32 n1]) [] [] | 9, 1 => told (.tup [.agg [str z2.s, int (z2.a : Nat), int z2.e], u32 n2]) [] [] | 10, 1 => told (.tup [.agg [str z3.s, int (z3.a : Nat), int z3.e], u32 n3]) [] [] | 11, 1 => .res (u8 n1) | 11, 3 => .res (u8 n2) | 11, 5 => .res (u8 n3) | 12, 2 => told (.v (.string zz)) [] [] | 13, 3 => mustH z3 | _, _ => .no, [((2, 15), ([2, 4, 5, 9, 10], 3))], fun | 17 => some ⟨[], [5, 9, 10], .take true [0,1,2,3,4] (.one 5 (.take false [6,7,8] (.one 9 (.one 10 .done))))⟩ | 21 => some ⟨[], [], .take true [0,1,2] (.one 3 (.take true [4] .done))⟩ | _ => none⟩) 400 (B := ∀ (b : Nat), bsplit (decide ((↑(ByteArray.size (ByteArray.mk (List.toArray l))) : Int) < (4 : Int))) ((34 = nat_lit 34 ∧ List.all zC T.one = true) ∧ b = b ∧ 0 + nat_lit 34 ≤ 34 ∧ b = b ∧ Q (T.tup [T.agg zC, int 2]) [] fun x => none) (int (IntKind.wrap IntKind.i64 ((↑(ByteArray.size (ByteArray.mk (List.toArray l))) : Int) - (4 : Int))) = int ((↑(List.length l) : Int) - (4 : Int)) ∧ ((0 : Int) ≤ (↑(0 : Nat) : Int) ∧ (↑(0 : Nat) : Int) ≤ Prod.snd (IntKind.i64, (↑(List.length l) : Int) - (4 : Int)) ∧ Prod.snd (IntKind.i64, (↑(List.length l) : Int) - (4 : Int)) ≤ (↑(ByteArray.size (ByteArray.mk (List.toArray l))) : Int)) ∧ TCalls Tryd.prog 37 [T.v (Value.string (ByteArray.extract (ByteArray.mk (List.toArray l)) (Int.toNat (↑(0 : Nat) : Int)) (Int.toNat (Prod.snd (IntKind.i64, (↑(List.length l) : Int) - (4 : Int))))))] [] none_ (callPost (Hint.call false Unit (fun x => True) [] false (fun x => str l) (fun x => []) fun x => none_)) ∧ ∀ (a : Unit), True → bsplit (!decide ((ByteArray.mk (List.toArray l)) = (ByteArray.mk (List.toArray l)))) ((34 = nat_lit 34 ∧ List.all zC T.one = true) ∧ b = b ∧ 0 + nat_lit 34 ≤ 34 ∧ b = b ∧ Q (T.tup [T.agg zC, int 5]) [] fun x => none) (int (IntKind.wrap IntKind.i64 ((↑(ByteArray.size (ByteArray.mk (List.toArray l))) : Int) - (4 : Int))) = int ((↑(List.length l) : Int) - (4 : Int)) ∧ ((0 : Int) ≤ (↑(0 : Nat) : Int) ∧ (↑(0 : Nat) : Int) ≤ Prod.snd (IntKind.i64, (↑(List.length l) : Int) - (4 : Int)) ∧ Prod.snd (IntKind.i64, (↑(List.length l) : Int) - (4 : Int)) ≤ (↑(ByteArray.size (ByteArray.mk (List.toArray l))) : Int)) ∧ ∀ (b_1 : Nat), (3 = nat_lit 3 ∧ List.all [T.v (Value.string (ByteArray.extract (ByteArray.mk (List.toArray l)) (Int.toNat (↑(0 : Nat) : Int)) (Int.toNat (Prod.snd (IntKind.i64, (↑(List.length l) : Int) - (4 : Int)))))), int 0, int 0] T.one = true) ∧ b_1 = b_1 ∧ 0 + nat_lit 3 ≤ 3 ∧ ∀ (b_2 : Nat), b_1 = b_1 ∧ TCalls Tryd.prog 45 [T.agg [T.v (Value.string (ByteArray.extract (ByteArray.mk (List.toArray l)) (Int.toNat (↑(0 : Nat) : Int)) (Int.toNat (Prod.snd (IntKind.i64, (↑(List.length l) : Int) - (4 : Int)))))), int 0, int 0], int 1] [] none_ (callPost (Hint.call false Unit (fun x => True) [] false (fun x => T.tup [T.agg [str (Z.s z1), int (↑(Z.a z1) : Int), int (Z.e z1)], u32 (↑n1 : Int)]) (fun x => []) fun x => none_)) ∧ ∀ (a : Unit), True → (3 = nat_lit 3 ∧ List.all (stC z1) T.one = true) ∧ b_1 = b_1 ∧ 0 + nat_lit 3 ≤ 3 ∧ b_1 = b_1 ∧ TCalls Tryd.prog 45 [T.agg (stC z1), int 1] [] none_ (callPost (Hint.call false Unit (fun x => True) [] false (fun x => T.tup [T.agg [str (Z.s z2), int (↑(Z.a z2) : Int), int (Z.e z2)], u32 (↑n2 : Int)]) (fun x => []) fun x => none_)) ∧ ∀ (a : Unit), True → (3 = nat_lit 3 ∧ List.all (stC z2) T.one = true) ∧ b_1 = b_1 ∧ 0 + nat_lit 3 ≤ 3 ∧ b_1 = b_1 ∧ TCalls Tryd.prog 45 [T.agg (stC z2), int 1] [] none_ (callPost (Hint.call false Unit (fun x => True) [] false (fun x => T.tup [T.agg [str (Z.s z3), int (↑(Z.a z3) : Int), int (Z.e z3)], u32 (↑n3 : Int)]) (fun x => []) fun x => none_)) ∧ ∀ (a : Unit), True → (3 = nat_lit 3 ∧ List.all (stC z3) T.one = true) ∧ b_1 = b_1 ∧ 0 + nat_lit 3 ≤ 3 ∧ u8 (IntKind.wrap IntKind.u8 (↑n1 : Int)) = u8 n1 ∧ u8 (IntKind.wrap IntKind.u8 (↑n2 : Int)) = u8 n2 ∧ u8 (IntKind.wrap IntKind.u8 (↑n3 : Int)) = u8 n3 ∧ (1 = nat_lit 1 ∧ List.all (List.map T.v (Array.toList #[Value.int IntKind.u8 (↑n1 : Int)])) T.one = true) ∧ b_2 = b_2 ∧ 0 + nat_lit 1 ≤ 34 ∧ (1 = nat_lit 1 ∧ List.all (List.map T.v (Array.toList #[Value.int IntKind.u8 (↑n2 : Int)])) T.one = true) ∧ b_2 = b_2 ∧ 1 + nat_lit 1 ≤ 34 ∧ (1 = nat_lit 1 ∧ List.all (List.map T.v (Array.toList #[Value.int IntKind.u8 (↑n3 : Int)])) T.one = true) ∧ b_2 = b_2 ∧ 2 + nat_lit 1 ≤ 34 ∧ b_2 = b_2 ∧ TCalls Tryd.prog 32 [u8 n1] [] none_ (callPost (Hint.call false Unit (fun x => True) [] false (fun x => T.v (Value.string zz)) (fun x => []) fun x => none_)) ∧ ∀ (a : Unit), True → b_1 = b_1 ∧ TCalls Tryd.prog 46 [T.agg (stC z3), bool (!decide (zz = (ByteArray.mk (#[]))))] [] none_ (callPost (Hint.call false Unit (fun x => True) [] false (fun x => T.agg [str (Z.s (zmust (!decide (zz = (ByteArray.mk (#[])))) z3)), int (↑(Z.a (zmust (!decide (zz = (ByteArray.mk (#[])))) z3)) : Int), int (Z.e (zmust (!decide (zz = (ByteArray.mk (#[])))) z3))]) (fun x => []) fun x => none_)) ∧ ∀ (a : Unit), True → (3 = nat_lit 3 ∧ List.all [str (Z.s (zmust (!decide (zz = (ByteArray.mk (#[])))) z3)), int (Z.a (zmust (!decide (zz = (ByteArray.mk (#[])))) z3)), int (Z.e (zmust (!decide (zz = (ByteArray.mk (#[])))) z3))] T.one = true) ∧ b_1 = b_1 ∧ 0 + nat_lit 3 ≤ 3 ∧ TWk Tryd.prog Γ (fin Tryd.prog Tryd.f14 [] Q) [It.code (sub (bd Tryd.f14) [1, 1, 1, 1, 1, 1, 1, 1, 1, 1, 1, 1, 0, 1, 0]), It.blk 0, It.code (sub (bd Tryd.f14) [1, 1, 1, 1, 1, 1, 1, 1, 1, 1, 1, 1, 1])] { fr := frame 100 [(2, T.ptr 0 b 0), (4, T.ptr 1 b_1 0), (5, T.ptr 2 b_2 0), (9, T.v (Value.string zz)), (10, int 0)], ob := [(b, Ob.cells zC), (b_1, Ob.cells [str (Z.s (zmust (!decide (zz = (ByteArray.mk (#[])))) z3)), int (Z.a (zmust (!decide (zz = (ByteArray.mk (#[])))) z3)), int (Z.e (zmust (!decide (zz = (ByteArray.mk (#[])))) z3))]), (b_2, Ob.cells [u8 n1, u8 n2, u8 n3, u32 0, u8 0, u32 0, u8 0, u8 0, bool false, str [], bool false, bool false, u8 0, u8 0, u32 0, u32 0, u8 0, u32 0, u8 0, u8 0, u8 0, u32 0, u32 0, u32 0, T.v nilS, u8 0, u8 0, u8 0, u8 0, u8 0, u8 0, u8 0, u8 0, T.v nilS])], gl := fun x => none }))) (by kernel_rfl) ?_
      repeat' (first | exact rfl | exact Nat.le_of_ble_eq_true rfl | refine And.intro ?_ ?_ | intro _ | refine bsplit_mk (fun _ => ?_) (fun _ => ?_))
      all_goals first
        | exact hw
        | exact hs'
        | exact s1
        | exact s2
        | exact s3
        | exact s4 _
        | exact k1
        | exact k2
        | exact k3
        | exact hf
        | exact lp Γ _ _ _
        | (exfalso; rename_i h; rw [hnn] at h; cases h; done)
        | (exfalso; simp only [decide_eq_true_eq, hsz] at *; omega)
        | omega
        | (rw [hsz]; omega)
        | (show (0 : Int) ≤ (l.length : Int) - 4; omega)
        | (show (l.length : Int) - 4 ≤ (((⟨l.toArray⟩ : ByteArray).size : Nat) : Int); rw [hsz]; omega)
        | (clear lp; trace_state)
    · have hQ : Q (.tup [.agg zC, int 5]) [] none_ := hQ _ (by
        unfold Frm.decR
        rw [show openE l = 5 from hE.trans (if_pos hb)]; rfl)
      have hnn : (!decide ((⟨(Crc.sealL (l.take (l.length - 4))).toArray⟩ : ByteArray) = ⟨l.toArray⟩)) = true := by rw [decide_eq_false (fun h => hb (str_inj.1 h))]; rfl
      clear hE
      generalize Crc.sealL (l.take (l.length - 4)) = sb at *
      refine TCalls.of Tryd.func14 rfl (CanCall.of Tryd.func14 rfl (by decide)) [] fun Γ => ?_
      refine run_sound (⟨fun | 3, 3 => .res (int ((l.length : Int) - 4)) | 3, 5 => told (str sb) [] [] | 5, 3 => .no | _, _ => .no, [((0, 5), ([0, 2], 1))], fun | 17 => some ⟨[], [5, 9, 10], .take true [0,1,2,3,4] (.one 5 (.take false [6,7,8] (.one 9 (.one 10 .done))))⟩ | 21 => some ⟨[], [], .take true [0,1,2] (.one 3 (.take true [4] .done))⟩ | _ => none⟩) 400 (B := ∀ (b : Nat), bsplit (decide ((↑(ByteArray.size (ByteArray.mk (List.toArray l))) : Int) < (4 : Int))) ((34 = nat_lit 34 ∧ List.all zC T.one = true) ∧ b = b ∧ 0 + nat_lit 34 ≤ 34 ∧ b = b ∧ Q (T.tup [T.agg zC, int 2]) [] fun x => none) (int (IntKind.wrap IntKind.i64 ((↑(ByteArray.size (ByteArray.mk (List.toArray l))) : Int) - (4 : Int))) = int ((↑(List.length l) : Int) - (4 : Int)) ∧ ((0 : Int) ≤ (↑(0 : Nat) : Int) ∧ (↑(0 : Nat) : Int) ≤ Prod.snd (IntKind.i64, (↑(List.length l) : Int) - (4 : Int)) ∧ Prod.snd (IntKind.i64, (↑(List.length l) : Int) - (4 : Int)) ≤ (↑(ByteArray.size (ByteArray.mk (List.toArray l))) : Int)) ∧ TCalls Tryd.prog 37 [T.v (Value.string (ByteArray.extract (ByteArray.mk (List.toArray l)) (Int.toNat (↑(0 : Nat) : Int)) (Int.toNat (Prod.snd (IntKind.i64, (↑(List.length l) : Int) - (4 : Int))))))] [] none_ (callPost (Hint.call false Unit (fun x => True) [] false (fun x => str sb) (fun x => []) fun x => none_)) ∧ ∀ (a : Unit), True → bsplit (!decide ((ByteArray.mk (List.toArray sb)) = (ByteArray.mk (List.toArray l)))) ((34 = nat_lit 34 ∧ List.all zC T.one = true) ∧ b = b ∧ 0 + nat_lit 34 ≤ 34 ∧ b = b ∧ Q (T.tup [T.agg zC, int 5]) [] fun x => none) (TWk Tryd.prog Γ (fin Tryd.prog Tryd.f14 [] Q) [It.code (sub (bd Tryd.f14) [1, 1, 1])] { fr := frame 100 [(0, str l), (2, T.ptr 0 b 0)], ob := [(b, Ob.cells zC)], gl := fun x => none }))) (by kernel_rfl) ?_
      repeat' (first | exact rfl | exact Nat.le_of_ble_eq_true rfl | refine And.intro ?_ ?_ | intro _ | refine bsplit_mk (fun _ => ?_) (fun _ => ?_))
      all_goals first
        | exact hw
        | exact hs'
        | exact hQ
        | (exfalso; rename_i h; rw [hnn] at h; cases h; done)
        | (exfalso; simp only [decide_eq_true_eq, hsz] at *; omega)
        | omega
        | (rw [hsz]; omega)
        | (show (0 : Int) ≤ (l.length : Int) - 4; omega)
        | (show (l.length : Int) - 4 ≤ (((⟨l.toArray⟩ : ByteArray).size : Nat) : Int); rw [hsz]; omega)
        | trace_state
end X6
end Go.Proofs.YtaepgceodcdnhaaDoor.Vm
/- Frames by the engine: the law's made. -/
namespace Go.Proofs.YtaepgceodcdnhaaDoor.Vm
open Go Go.RowKit
set_option maxRecDepth 100000
namespace X6
open Frm (Cmd Mem Ent Lvs Fm)
def rmL (M : List T) (h : Value) : Nat × Ob := (0, .room 3 98 M.length h)
def reL (M : List T) (h : Value) : Nat × Ob := (0, .room 8 101 M.length h)
def obsM1 (b0 b2 b3 : Nat) (y : Fm) (M : List T) (h : Value) : Obs := [(b0, .cells (frC y)), (b2, .cells zC), (b3, .cells (frS y (.slx 3 3 M h) (.v nilS))), rmL M h]
def obsM2 (b0 b2 b3 : Nat) (y : Fm) (M E : List T) (h h2 : Value) : Obs := [(b0, .cells (frC y)), (b2, .cells zC), (b3, .cells (frS y (.slx 3 3 M h) (.slx 8 4 E h2))), rmL M h, reL E h2]
section
variable (Γ : Ctx) (b0 b2 b3 : Nat) (y : Fm) (Q : T → Obs → Glb → Prop)
theorem made_end (hQ : Q (.agg (frC (cutF y))) [] none_) :
    TWk Tryd.prog Γ (fin Tryd.prog Tryd.f16 [] Q) [.code (sub (bd Tryd.f16) [1, 1, 1, 1])] ⟨frame 101 [(2, .ptr 1 b2 0), (3, .ptr 2 b3 0)], [(b0, .cells (frC y)), (b2, .cells zC), (b3, .cells (frC y))], none_⟩ := by
  have t1 := told_any y
  rw [frC_cut] at *
  rw [show frC y = frS y (.sl 3 (Row.aggs memC y.ms)) (.sl 8 (Row.aggs entC y.es)) from rfl] at *
  generalize Row.aggs memC (y.ms.take 10) = M1 at *
  generalize Row.aggs entC (y.es.take 18) = E1 at *
  generalize Row.aggs memC y.ms = M at *
  generalize Row.aggs entC y.es = E at *
  unfold frS at *
  refine run_sound (⟨fun | 11, 1 => told (.tup [.agg (frS y (.sl 3 M1) (.sl 8 E1)), .agg (frS y (.sl 3 M1) (.sl 8 E1))]) [] [] | _, _ => .no, [], fun | 5 => some ⟨[], [8, 10], .take true [0,1,2,3,4,5,6] (.one 7 (.one 8 (.take false [9] (.one 10 .done))))⟩ | _ => none⟩) 400 (B := b3 = b3 ∧ TCalls Tryd.prog 10 [T.agg (frS y (T.sl 3 M) (T.sl 8 E))] [] none_ (callPost (Hint.call false Unit (fun x => True) [] false (fun x => T.tup [T.agg (frS y (T.sl 3 M1) (T.sl 8 E1)), T.agg (frS y (T.sl 3 M1) (T.sl 8 E1))]) (fun x => []) fun x => none_)) ∧ ∀ (a : Unit), True → ∀ (b b_1 : Nat), (34 = nat_lit 34 ∧ List.all (frS y (T.sl 3 M1) (T.sl 8 E1)) T.one = true) ∧ b = b ∧ 0 + nat_lit 34 ≤ 34 ∧ (34 = nat_lit 34 ∧ List.all (frS y (T.sl 3 M1) (T.sl 8 E1)) T.one = true) ∧ b_1 = b_1 ∧ 0 + nat_lit 34 ≤ 34 ∧ b = b ∧ (34 = nat_lit 34 ∧ List.all (frS y (T.sl 3 M1) (T.sl 8 E1)) T.one = true) ∧ b2 = b2 ∧ 0 + nat_lit 34 ≤ 34 ∧ b2 = b2 ∧ Q (T.agg (frS y (T.sl 3 M1) (T.sl 8 E1))) [] fun x => none) (by kernel_rfl) ?_
  repeat' (first | exact rfl | exact Nat.le_of_ble_eq_true rfl | refine And.intro ?_ ?_ | intro _ | refine bsplit_mk (fun _ => ?_) (fun _ => ?_))
  all_goals first
    | exact t1
    | exact hQ
    | trace_state
theorem made_l2 (h : Value) (hes : y.es.length ≤ 100) (hQ : Q (.agg (frC (cutF y))) [] none_) : ∀ (r d : List Ent) (h2 : Value), y.es = d ++ r →
    TWk Tryd.prog Γ (fin Tryd.prog Tryd.f16 [] Q) [.code (sub (bd Tryd.f16) [1, 1, 1, 0, 1, 0]), .blk 2, .code (sub (bd Tryd.f16) [1, 1, 1, 1])] ⟨frame 101 [(1, .ptr 0 b0 0), (2, .ptr 1 b2 0), (3, .ptr 2 b3 0), (5, int (d.length : Nat))], obsM2 b0 b2 b3 y (Row.aggs memC y.ms) (Row.aggs entC d) h h2, none_⟩ := by
  intro r
  induction r with
  | nil =>
    intro d h2 e
    have e : y.es = d := by rw [e, List.append_nil]
    subst e
    have en := made_end Γ b0 b2 b3 y Q hQ
    have en : TWk Tryd.prog Γ (fin Tryd.prog Tryd.f16 [] Q) [.code (sub (bd Tryd.f16) [1, 1, 1, 1])] ⟨frame 101 [(2, .ptr 1 b2 0), (3, .ptr 2 b3 0)], obsM2 b0 b2 b3 y (Row.aggs memC y.ms) (Row.aggs entC y.es) h h2, none_⟩ :=
      TWk.imp (s := ⟨frame 101 [(2, .ptr 1 b2 0), (3, .ptr 2 b3 0)], obsM2 b0 b2 b3 y (Row.aggs memC y.ms) (Row.aggs entC y.es) h h2, none_⟩) (TWk.imp (s := ⟨frame 101 [(2, .ptr 1 b2 0), (3, .ptr 2 b3 0)], [(b0, .cells (frC y)), (b2, .cells zC), (b3, .cells (frC y)), rmL (Row.aggs memC y.ms) h, reL (Row.aggs entC y.es) h2], none_⟩) en (Imp.take 3))
        (Imp.weak (i := 2) (b := b3) (cs := frS y (.slx 3 3 (Row.aggs memC y.ms) h) (.slx 8 4 (Row.aggs entC y.es) h2)) rfl)
    have hlen : (Row.aggs entC y.es).length = y.es.length := Row.aggs_len y.es
    have hlt : decide ((y.es.length : Int) < ((Row.aggs entC y.es).length : Int)) = false := decide_eq_false (by omega)
    clear hQ
    unfold obsM2 frC frS rmL reL at *
    generalize Row.aggs memC y.ms = XM at *
    generalize Row.aggs entC y.es = XE at *
    generalize (y.es.length : Nat) = n at *
    refine run_sound (⟨fun | 9, 3 => .no | _, _ => .no, [((2, 7), ([1, 2, 3, 5], 5)), ((0, 11), ([2, 3], 5)), ((0, 9), ([1, 2, 3, 5], 5))], fun | 5 => some ⟨[], [8, 10], .take true [0,1,2,3,4,5,6] (.one 7 (.one 8 (.take false [9] (.one 10 .done))))⟩ | _ => none⟩) 400 (B := b0 = b0 ∧ bsplit (decide ((↑n : Int) < (↑(List.length XE) : Int))) (TWk Tryd.prog Γ (fin Tryd.prog Tryd.f16 [] Q) [It.code (sub (bd Tryd.f16) [1, 1, 1, 0, 1, 0, 0, 1, 0, 0]), It.blk 3, It.code (sub (bd Tryd.f16) [1, 1, 1, 0, 1, 0, 0, 1, 1]), It.code (sub (bd Tryd.f16) [1, 1, 1, 0, 1, 0]), It.blk 2, It.code (sub (bd Tryd.f16) [1, 1, 1, 1])] { fr := frame 101 [(1, T.ptr 0 b0 0), (2, T.ptr 1 b2 0), (3, T.ptr 2 b3 0), (5, int n)], ob := [(b0, Ob.cells (frS y (T.sl 3 XM) (T.sl 8 XE))), (b2, Ob.cells zC), (b3, Ob.cells (frS y (T.slx 3 3 XM h) (T.slx 8 4 XE h2))), (0, Ob.room 3 98 (List.length XM) h), (0, Ob.room 8 101 (List.length XE) h2)], gl := fun x => none }) (TWk Tryd.prog Γ (fin Tryd.prog Tryd.f16 [] Q) [It.code (sub (bd Tryd.f16) [1, 1, 1, 1])] { fr := frame 101 [(2, T.ptr 1 b2 0), (3, T.ptr 2 b3 0)], ob := [(b0, Ob.cells (frS y (T.sl 3 XM) (T.sl 8 XE))), (b2, Ob.cells zC), (b3, Ob.cells (frS y (T.slx 3 3 XM h) (T.slx 8 4 XE h2))), (0, Ob.room 3 98 (List.length XM) h), (0, Ob.room 8 101 (List.length XE) h2)], gl := fun x => none })) (by kernel_rfl) ?_
    repeat' (first | exact rfl | exact Nat.le_of_ble_eq_true rfl | refine And.intro ?_ ?_ | intro _ | refine bsplit_mk (fun _ => ?_) (fun _ => ?_))
    all_goals first
      | exact en
      | (exfalso; rename_i hh; rw [hlt] at hh; cases hh; done)
      | trace_state
  | cons a r ih =>
    intro d h2 e
    have hlen : (Row.aggs entC y.es).length = y.es.length := Row.aggs_len y.es
    have hdl : (Row.aggs entC d).length = d.length := Row.aggs_len d
    have hlt : d.length < y.es.length := by rw [e]; simp
    have hlt2 : decide ((d.length : Int) < ((Row.aggs entC y.es).length : Int)) = true := decide_eq_true (by omega)
    have hat : (Row.aggs entC y.es)[(d.length : Int).toNat]? = some (.agg (entC a)) := Row.aggs_at (by rw [e]; simp)
    have nx := fun h2 => ih (d ++ [a]) h2 (by rw [e]; simp)
    rw [show (d ++ [a]).length = d.length + 1 by simp] at nx
    simp only [Row.aggs_snoc] at nx
    clear hQ ih
    unfold obsM2 frC frS rmL reL entC at *
    generalize Row.aggs memC y.ms = XM at *
    generalize Row.aggs _ y.es = XE at *
    generalize Row.aggs _ d = D at *
    generalize d.length = n at *
    refine run_sound (⟨fun | 9, 3 => .res (.agg [u32 a.s, u32 a.n, u8 a.b, u8 a.c.k, u8 a.c.n, u8 a.c.l, u32 a.c.e, u32 a.c.q]) | 8, 1 => .res (int (n + 1 : Nat)) | _, _ => .no, [((2, 7), ([1, 2, 3, 5], 5)), ((0, 11), ([2, 3], 5))], fun | 5 => some ⟨[], [8, 10], .take true [0,1,2,3,4,5,6] (.one 7 (.one 8 (.take false [9] (.one 10 .done))))⟩ | _ => none⟩) 400 (B := b0 = b0 ∧ bsplit (decide ((↑n : Int) < (↑(List.length XE) : Int))) (b0 = b0 ∧ (0 : Int) ≤ (↑n : Int) ∧ XE[Int.toNat (↑n : Int)]? = some (T.agg [u32 (Ent.s a), u32 (Ent.n a), u8 (Ent.b a), u8 (Cmd.k (Ent.c a)), u8 (Cmd.n (Ent.c a)), u8 (Cmd.l (Ent.c a)), u32 (Cmd.e (Ent.c a)), u32 (Cmd.q (Ent.c a))]) ∧ ∀ (b : Nat), (8 = nat_lit 8 ∧ List.all [u32 (Ent.s a), u32 (Ent.n a), u8 (Ent.b a), u8 (Cmd.k (Ent.c a)), u8 (Cmd.n (Ent.c a)), u8 (Cmd.l (Ent.c a)), u32 (Cmd.e (Ent.c a)), u32 (Cmd.q (Ent.c a))] T.one = true) ∧ b = b ∧ 0 + nat_lit 8 ≤ 8 ∧ b3 = b3 ∧ b = b ∧ b = b ∧ b = b ∧ b = b ∧ (h2 = h2 ∧ List.length D = List.length D) ∧ Fits (List.length D + 1) (nat_lit 24) ∧ ∀ (x : Value), (1 = nat_lit 1 ∧ List.all [T.slx 8 4 (D ++ [T.agg [u32 (Ent.s a), u32 (Ent.n a), u8 (Ent.b a), u8 (Cmd.k (Ent.c a)), u8 (Cmd.n (Ent.c a)), u8 (Cmd.l (Ent.c a)), u32 (Cmd.e (Ent.c a)), u32 (Cmd.q (Ent.c a))]]) x] T.one = true) ∧ b3 = b3 ∧ 33 + nat_lit 1 ≤ 34 ∧ int (IntKind.wrap IntKind.i64 ((↑n : Int) + (1 : Int))) = int (n + 1) ∧ TWk Tryd.prog Γ (fin Tryd.prog Tryd.f16 [] Q) [It.code (sub (bd Tryd.f16) [1, 1, 1, 0, 1, 0]), It.blk 2, It.code (sub (bd Tryd.f16) [1, 1, 1, 1])] { fr := frame 101 [(1, T.ptr 0 b0 0), (2, T.ptr 1 b2 0), (3, T.ptr 2 b3 0), (5, int (n + 1))], ob := [(b0, Ob.cells (frS y (T.sl 3 XM) (T.sl 8 XE))), (b2, Ob.cells zC), (b3, Ob.cells (frS y (T.slx 3 3 XM h) (T.slx 8 4 (D ++ [T.agg [u32 (Ent.s a), u32 (Ent.n a), u8 (Ent.b a), u8 (Cmd.k (Ent.c a)), u8 (Cmd.n (Ent.c a)), u8 (Cmd.l (Ent.c a)), u32 (Cmd.e (Ent.c a)), u32 (Cmd.q (Ent.c a))]]) x))), (0, Ob.room 3 98 (List.length XM) h), (0, Ob.room 8 101 (List.length (D ++ [T.agg [u32 (Ent.s a), u32 (Ent.n a), u8 (Ent.b a), u8 (Cmd.k (Ent.c a)), u8 (Cmd.n (Ent.c a)), u8 (Cmd.l (Ent.c a)), u32 (Cmd.e (Ent.c a)), u32 (Cmd.q (Ent.c a))]])) x)], gl := fun x => none }) (TWk Tryd.prog Γ (fin Tryd.prog Tryd.f16 [] Q) [It.code (sub (bd Tryd.f16) [1, 1, 1, 1])] { fr := frame 101 [(2, T.ptr 1 b2 0), (3, T.ptr 2 b3 0)], ob := [(b0, Ob.cells (frS y (T.sl 3 XM) (T.sl 8 XE))), (b2, Ob.cells zC), (b3, Ob.cells (frS y (T.slx 3 3 XM h) (T.slx 8 4 D h2))), (0, Ob.room 3 98 (List.length XM) h), (0, Ob.room 8 101 (List.length D) h2)], gl := fun x => none })) (by kernel_rfl) ?_
    repeat' (first | exact rfl | exact Nat.le_of_ble_eq_true rfl | refine And.intro ?_ ?_ | intro _ | refine bsplit_mk (fun _ => ?_) (fun _ => ?_))
    all_goals first
      | exact hat
      | exact n1T (by omega)
      | (exfalso; rename_i hh; rw [hlt2] at hh; cases hh; done)
      | exact nx _
      | exact Int.natCast_nonneg _
      | (simp [maxLen]; omega)
      | omega
      | (clear nx; trace_state)
theorem made_l1 (hms : y.ms.length ≤ 100) (hes : y.es.length ≤ 100) (hQ : Q (.agg (frC (cutF y))) [] none_) : ∀ (r d : List Mem) (h : Value), y.ms = d ++ r →
    TWk Tryd.prog Γ (fin Tryd.prog Tryd.f16 [] Q) [.code (sub (bd Tryd.f16) [1, 1, 0, 1, 0]), .blk 0, .code (sub (bd Tryd.f16) [1, 1, 1])] ⟨frame 101 [(1, .ptr 0 b0 0), (2, .ptr 1 b2 0), (3, .ptr 2 b3 0), (4, int (d.length : Nat))], obsM1 b0 b2 b3 y (Row.aggs memC d) h, none_⟩ := by
  intro r
  induction r with
  | nil =>
    intro d h e
    have e : y.ms = d := by rw [e, List.append_nil]
    subst e
    have en := made_l2 Γ b0 b2 b3 y Q h hes hQ y.es [] nilS rfl
    have en : TWk Tryd.prog Γ (fin Tryd.prog Tryd.f16 [] Q) [.code (sub (bd Tryd.f16) [1, 1, 1, 0, 1, 0]), .blk 2, .code (sub (bd Tryd.f16) [1, 1, 1, 1])] ⟨frame 101 [(1, .ptr 0 b0 0), (2, .ptr 1 b2 0), (3, .ptr 2 b3 0), (5, int 0)], obsM1 b0 b2 b3 y (Row.aggs memC y.ms) h, none_⟩ := by
      have l2 := TWk.imp (s := ⟨frame 101 [(1, .ptr 0 b0 0), (2, .ptr 1 b2 0), (3, .ptr 2 b3 0), (5, int 0)], obsM1 b0 b2 b3 y (Row.aggs memC y.ms) h ++ [reL [] nilS], none_⟩) en
        (Imp.cell 8 4 (ob := [(b0, .cells (frC y)), (b2, .cells zC), (b3, .cells (frS y (.slx 3 3 (Row.aggs memC y.ms) h) (.v nilS))), rmL (Row.aggs memC y.ms) h, reL [] nilS]) (i := 2) (j := 33) (b := b3) (cs := frS y (.slx 3 3 (Row.aggs memC y.ms) h) (.v nilS)) rfl rfl)
      exact TWk.imp l2 (Imp.room (ob := obsM1 b0 b2 b3 y (Row.aggs memC y.ms) h) 8 101)
    have hlen : (Row.aggs memC y.ms).length = y.ms.length := Row.aggs_len y.ms
    have hlt : decide ((y.ms.length : Int) < ((Row.aggs memC y.ms).length : Int)) = false := decide_eq_false (by omega)
    clear hQ
    unfold obsM1 frC frS rmL at *
    generalize Row.aggs memC y.ms = XM at *
    generalize Row.aggs entC y.es = XE at *
    generalize (y.ms.length : Nat) = n at *
    refine run_sound (⟨fun | 5, 5 => .no | _, _ => .no, [((2, 3), ([1, 2, 3, 4], 4)), ((2, 7), ([1, 2, 3, 5], 4)), ((1, 1), ([1, 2, 3, 4], 4))], fun | 5 => some ⟨[0, 2], [8, 10], .take true [0,1,2,3,4,5,6] (.one 7 (.one 8 (.take false [9] (.one 10 .done))))⟩ | _ => none⟩) 400 (B := b0 = b0 ∧ bsplit (decide ((↑n : Int) < (↑(List.length XM) : Int))) (TWk Tryd.prog Γ (fin Tryd.prog Tryd.f16 [] Q) [It.code (sub (bd Tryd.f16) [1, 1, 0, 1, 0, 0, 1]), It.code (sub (bd Tryd.f16) [1, 1, 0, 1, 0]), It.blk 0, It.code (sub (bd Tryd.f16) [1, 1, 1])] { fr := frame 101 [(1, T.ptr 0 b0 0), (2, T.ptr 1 b2 0), (3, T.ptr 2 b3 0), (4, int n)], ob := [(b0, Ob.cells (frS y (T.sl 3 XM) (T.sl 8 XE))), (b2, Ob.cells zC), (b3, Ob.cells (frS y (T.slx 3 3 XM h) (T.v nilS))), (0, Ob.room 3 98 (List.length XM) h)], gl := fun x => none }) (TWk Tryd.prog Γ (fin Tryd.prog Tryd.f16 [] Q) [It.code (sub (bd Tryd.f16) [1, 1, 1, 0, 1, 0]), It.blk 2, It.code (sub (bd Tryd.f16) [1, 1, 1, 1])] { fr := frame 101 [(1, T.ptr 0 b0 0), (2, T.ptr 1 b2 0), (3, T.ptr 2 b3 0), (5, int 0)], ob := [(b0, Ob.cells (frS y (T.sl 3 XM) (T.sl 8 XE))), (b2, Ob.cells zC), (b3, Ob.cells (frS y (T.slx 3 3 XM h) (T.v nilS))), (0, Ob.room 3 98 (List.length XM) h)], gl := fun x => none })) (by kernel_rfl) ?_
    repeat' (first | exact rfl | exact Nat.le_of_ble_eq_true rfl | refine And.intro ?_ ?_ | intro _ | refine bsplit_mk (fun _ => ?_) (fun _ => ?_))
    all_goals first
      | exact en
      | (exfalso; rename_i hh; rw [hlt] at hh; cases hh; done)
      | trace_state
  | cons a r ih =>
    intro d h e
    have hlen : (Row.aggs memC y.ms).length = y.ms.length := Row.aggs_len y.ms
    have hdl : (Row.aggs memC d).length = d.length := Row.aggs_len d
    have hlt : d.length < y.ms.length := by rw [e]; simp
    have hlt2 : decide ((d.length : Int) < ((Row.aggs memC y.ms).length : Int)) = true := decide_eq_true (by omega)
    have hat : (Row.aggs memC y.ms)[(d.length : Int).toNat]? = some (.agg (memC a)) := Row.aggs_at (by rw [e]; simp)
    have nx := fun h => ih (d ++ [a]) h (by rw [e]; simp)
    rw [show (d ++ [a]).length = d.length + 1 by simp] at nx
    simp only [Row.aggs_snoc] at nx
    clear hQ ih
    unfold obsM1 frC frS rmL memC at *
    generalize Row.aggs entC y.es = XE at *
    generalize Row.aggs _ y.ms = XM at *
    generalize Row.aggs _ d = D at *
    generalize d.length = n at *
    refine run_sound (⟨fun | 5, 5 => .res (.agg [u8 a.n, u8 a.l, bool a.r]) | 4, 1 => .res (int (n + 1 : Nat)) | _, _ => .no, [((2, 3), ([1, 2, 3, 4], 4)), ((2, 7), ([1, 2, 3, 5], 4))], fun | 5 => some ⟨[0, 2], [8, 10], .take true [0,1,2,3,4,5,6] (.one 7 (.one 8 (.take false [9] (.one 10 .done))))⟩ | _ => none⟩) 400 (B := b0 = b0 ∧ bsplit (decide ((↑n : Int) < (↑(List.length XM) : Int))) (b3 = b3 ∧ b0 = b0 ∧ (0 : Int) ≤ (↑n : Int) ∧ XM[Int.toNat (↑n : Int)]? = some (T.agg [u8 (Mem.n a), u8 (Mem.l a), bool (Mem.r a)]) ∧ (h = h ∧ List.length D = List.length D) ∧ Fits (List.length D + 1) (nat_lit 3) ∧ ∀ (x : Value), (1 = nat_lit 1 ∧ List.all [T.slx 3 3 (D ++ [T.agg [u8 (Mem.n a), u8 (Mem.l a), bool (Mem.r a)]]) x] T.one = true) ∧ b3 = b3 ∧ 24 + nat_lit 1 ≤ 34 ∧ int (IntKind.wrap IntKind.i64 ((↑n : Int) + (1 : Int))) = int (n + 1) ∧ TWk Tryd.prog Γ (fin Tryd.prog Tryd.f16 [] Q) [It.code (sub (bd Tryd.f16) [1, 1, 0, 1, 0]), It.blk 0, It.code (sub (bd Tryd.f16) [1, 1, 1])] { fr := frame 101 [(1, T.ptr 0 b0 0), (2, T.ptr 1 b2 0), (3, T.ptr 2 b3 0), (4, int (n + 1))], ob := [(b0, Ob.cells (frS y (T.sl 3 XM) (T.sl 8 XE))), (b2, Ob.cells zC), (b3, Ob.cells (frS y (T.slx 3 3 (D ++ [T.agg [u8 (Mem.n a), u8 (Mem.l a), bool (Mem.r a)]]) x) (T.v nilS))), (0, Ob.room 3 98 (List.length (D ++ [T.agg [u8 (Mem.n a), u8 (Mem.l a), bool (Mem.r a)]])) x)], gl := fun x => none }) (TWk Tryd.prog Γ (fin Tryd.prog Tryd.f16 [] Q) [It.code (sub (bd Tryd.f16) [1, 1, 1, 0, 1, 0]), It.blk 2, It.code (sub (bd Tryd.f16) [1, 1, 1, 1])] { fr := frame 101 [(1, T.ptr 0 b0 0), (2, T.ptr 1 b2 0), (3, T.ptr 2 b3 0), (5, int 0)], ob := [(b0, Ob.cells (frS y (T.sl 3 XM) (T.sl 8 XE))), (b2, Ob.cells zC), (b3, Ob.cells (frS y (T.slx 3 3 D h) (T.v nilS))), (0, Ob.room 3 98 (List.length D) h)], gl := fun x => none })) (by kernel_rfl) ?_
    repeat' (first | exact rfl | exact Nat.le_of_ble_eq_true rfl | refine And.intro ?_ ?_ | intro _ | refine bsplit_mk (fun _ => ?_) (fun _ => ?_))
    all_goals first
      | exact hat
      | exact n1T (by omega)
      | (exfalso; rename_i hh; rw [hlt2] at hh; cases hh; done)
      | exact nx _
      | exact Int.natCast_nonneg _
      | (simp [maxLen]; omega)
      | omega
      | (clear nx; trace_state)
end
theorem made_any (y : Fm) (hms : y.ms.length ≤ 100) (hes : y.es.length ≤ 100) : TCalls Tryd.prog 16 [.agg (frC y)] [] none_ (callPost (told (.agg (frC (cutF y))) [] [])) := by
  have hQ : callPost (told (.agg (frC (cutF y))) [] []) (.agg (frC (cutF y))) [] none_ := told_post rfl
  generalize callPost (told (.agg (frC (cutF y))) [] []) = Q at *
  have lp : ∀ (Γ : Ctx) (b0 b2 b3 : Nat), TWk Tryd.prog Γ (fin Tryd.prog Tryd.f16 [] Q) [.code (sub (bd Tryd.f16) [1, 1, 0, 1, 0]), .blk 0, .code (sub (bd Tryd.f16) [1, 1, 1])] ⟨frame 101 [(1, .ptr 0 b0 0), (2, .ptr 1 b2 0), (3, .ptr 2 b3 0), (4, int 0)], [(b0, .cells (frC y)), (b2, .cells zC), (b3, .cells (frS y (.v nilS) (.v nilS)))], none_⟩ := fun Γ b0 b2 b3 => by
    have l1 := made_l1 Γ b0 b2 b3 y Q hms hes hQ y.ms [] nilS rfl
    have l1 := TWk.imp (s := ⟨frame 101 [(1, .ptr 0 b0 0), (2, .ptr 1 b2 0), (3, .ptr 2 b3 0), (4, int 0)], [(b0, .cells (frC y)), (b2, .cells zC), (b3, .cells (frS y (.v nilS) (.v nilS))), rmL [] nilS], none_⟩) l1
      (Imp.cell 3 3 (ob := [(b0, .cells (frC y)), (b2, .cells zC), (b3, .cells (frS y (.v nilS) (.v nilS))), rmL [] nilS]) (i := 2) (j := 24) (b := b3) (cs := frS y (.v nilS) (.v nilS)) rfl rfl)
    exact TWk.imp l1 (Imp.room (ob := [(b0, .cells (frC y)), (b2, .cells zC), (b3, .cells (frS y (.v nilS) (.v nilS)))]) 3 98)
  clear hQ
  unfold frC frS at *
  generalize Row.aggs memC y.ms = XM at *
  generalize Row.aggs entC y.es = XE at *
  refine TCalls.of Tryd.func16 rfl (CanCall.of Tryd.func16 rfl (by decide)) [] fun Γ => ?_
  refine run_sound (⟨fun  | _, _ => .no, [((2, 3), ([1, 2, 3, 4], 3))], fun | 5 => some ⟨[], [8, 10], .take true [0,1,2,3,4,5,6] (.one 7 (.one 8 (.take false [9] (.one 10 .done))))⟩ | _ => none⟩) 400 (B := ∀ (b b_1 : Nat), b = b ∧ b = b ∧ b = b ∧ b = b ∧ b = b ∧ b = b ∧ b = b ∧ b = b ∧ b = b ∧ b = b ∧ b = b ∧ b = b ∧ b = b ∧ b = b ∧ b = b ∧ b = b ∧ b = b ∧ b = b ∧ b = b ∧ b = b ∧ b = b ∧ ∀ (b_2 : Nat), (34 = nat_lit 34 ∧ List.all (frS y (T.v nilS) (T.v nilS)) T.one = true) ∧ b_2 = b_2 ∧ 0 + nat_lit 34 ≤ 34 ∧ TWk Tryd.prog Γ (fin Tryd.prog Tryd.f16 [] Q) [It.code (sub (bd Tryd.f16) [1, 1, 0, 1, 0]), It.blk 0, It.code (sub (bd Tryd.f16) [1, 1, 1])] { fr := frame 101 [(1, T.ptr 0 b 0), (2, T.ptr 1 b_1 0), (3, T.ptr 2 b_2 0), (4, int 0)], ob := [(b, Ob.cells (frS y (T.sl 3 XM) (T.sl 8 XE))), (b_1, Ob.cells zC), (b_2, Ob.cells (frS y (T.v nilS) (T.v nilS)))], gl := fun x => none }) (by kernel_rfl) ?_
  repeat' (first | exact rfl | exact Nat.le_of_ble_eq_true rfl | refine And.intro ?_ ?_ | intro _ | refine bsplit_mk (fun _ => ?_) (fun _ => ?_))
  all_goals first
    | exact lp _ _ _ _
    | trace_state
end X6
end Go.Proofs.YtaepgceodcdnhaaDoor.Vm
/- Frames: plain, bounds. No program is named here. -/
namespace Go.Proofs.YtaepgceodcdnhaaDoor.Frm
/-- a frame whose numbers lie within their sizes; its text and its lists may be of any length -/
structure FmIn (f : Fm) : Prop where
  kind : f.kind < 256
  frm : f.frm < 256
  to : f.to < 256
  ep : f.ep < 4294967296
  key : f.key < 256
  sn : f.sn < 4294967296
  sb : f.sb < 256
  sl : f.sl < 256
  dir : f.dir < 256
  life : f.life < 256
  req : f.req < 4294967296
  bn : f.bn < 4294967296
  bb : f.bb < 256
  slot : f.slot < 4294967296
  c : f.c.Ok
  ve : f.ve < 4294967296
  mo : ∀ m ∈ f.ms, m.Ok
  lv : f.lv.Ok
  eo : ∀ x ∈ f.es, x.Ok
def cut40 (f : Fm) : Fm := { f with x := f.x.take 40, ms := f.ms.take 10, es := f.es.take 18 }
theorem FmIn.cut {f : Fm} (h : FmIn f) : (cut40 f).Ok where
  kind := h.kind
  frm := h.frm
  to := h.to
  ep := h.ep
  key := h.key
  sn := h.sn
  sb := h.sb
  sl := h.sl
  x := by show (f.x.take 40).length ≤ _; rw [List.length_take]; omega
  dir := h.dir
  life := h.life
  req := h.req
  bn := h.bn
  bb := h.bb
  slot := h.slot
  c := h.c
  ve := h.ve
  ms := by show (f.ms.take 10).length ≤ _; rw [List.length_take]; omega
  mo := fun m hm => h.mo m (List.mem_of_mem_take hm)
  lv := h.lv
  es := by show (f.es.take 18).length ≤ _; rw [List.length_take]; omega
  eo := fun m hm => h.eo m (List.mem_of_mem_take hm)
theorem cntN_le (most : Nat) (s : RS) (h : s.e = 0 ∨ s.e = 2) : cntN most s ≤ most := by
  unfold cntN
  split
  · exact Nat.zero_le _
  · rename_i hw
    by_cases g : rnum 1 s ≤ most
    · exact g
    · exfalso
      apply hw
      have he := takeL_err (l := s.l) (e := s.e) (f := 0) (n := (1 : Nat)) (by omega) h
      unfold wrong cntS must
      rw [decide_eq_false g]
      by_cases e2 : (rgo 1 s).e = 2
      · rw [if_neg (fun k => k.2 e2), e2]; simp
      · rw [if_pos ⟨rfl, e2⟩]; rfl
structure Sml (f : Fm) : Prop where
  ms : f.ms.length ≤ 8
  es : f.es.length ≤ 16
theorem fldR_sml {f : Fm} (h : Sml f) (c : Nat) {s : RS} (hs : s.Ok) : Sml (fldR c s f).1 := by
  unfold fldR
  by_cases e : c = 101
  · rw [if_pos e]; exact ⟨h.ms, h.es⟩
  rw [if_neg e]; clear e
  by_cases e : c = 107
  · rw [if_pos e]; exact ⟨h.ms, h.es⟩
  rw [if_neg e]; clear e
  by_cases e : c = 115
  · rw [if_pos e]; exact ⟨h.ms, h.es⟩
  rw [if_neg e]; clear e
  by_cases e : c = 118
  · rw [if_pos e]; exact ⟨h.ms, h.es⟩
  rw [if_neg e]; clear e
  by_cases e : c = 114
  · rw [if_pos e]; exact ⟨h.ms, h.es⟩
  rw [if_neg e]; clear e
  by_cases e : c = 102
  · rw [if_pos e]; exact ⟨h.ms, h.es⟩
  rw [if_neg e]; clear e
  by_cases e : c = 100
  · rw [if_pos e]; exact ⟨h.ms, h.es⟩
  rw [if_neg e]; clear e
  by_cases e : c = 108
  · rw [if_pos e]; exact ⟨h.ms, h.es⟩
  rw [if_neg e]; clear e
  by_cases e : c = 113
  · rw [if_pos e]; exact ⟨h.ms, h.es⟩
  rw [if_neg e]; clear e
  by_cases e : c = 98
  · rw [if_pos e]; exact ⟨h.ms, h.es⟩
  rw [if_neg e]; clear e
  by_cases e : c = 110
  · rw [if_pos e]; exact ⟨h.ms, h.es⟩
  rw [if_neg e]; clear e
  by_cases e : c = 99
  · rw [if_pos e]; exact ⟨h.ms, h.es⟩
  rw [if_neg e]; clear e
  by_cases e : c = 119
  · rw [if_pos e]
    refine ⟨?_, h.es⟩
    show (viewR s).1.2.1.length ≤ 8
    have h1 : (viewR s).1.2.1 = (memsR (cntN 8 (rgo 4 s)) (cntS 8 (rgo 4 s))).1 := by
      unfold viewR; dsimp only; split <;> rfl
    rw [h1]
    exact Nat.le_trans (mems_len _ _) (cntN_le 8 _ (hs.go 4).e)
  rw [if_neg e]
  exact ⟨h.ms, Nat.le_trans (ents_len _ _) (cntN_le 16 _ hs.e)⟩
theorem fldsR_sml : ∀ (cs : List Nat) {f : Fm} {s : RS}, Sml f → s.Ok → Sml (fldsR cs s f).1
  | [], _, _, h, _ => h
  | c :: cs, f, s, h, hs => by
    unfold fldsR
    split
    · exact h
    · exact fldsR_sml cs (fldR_sml h c hs) (hs.fld c f)
theorem decR_sml (l : List UInt8) (hl : l.length ≤ 1000000000) : Sml (decR l).1 := by
  have z : Sml fm0 := ⟨Nat.zero_le _, Nat.zero_le _⟩
  have hb : (l.take (l.length - 4)).length ≤ 1000000000 := by rw [List.length_take]; omega
  unfold decR
  split
  · exact z
  · unfold decB
    split
    · exact z
    · split
      · exact z
      · have h0 : (RS.mk (l.take (l.length - 4)) 0 false).Ok := ⟨hb, .inl rfl⟩
        exact fldsR_sml _ (f := hdF (l.take (l.length - 4))) ⟨Nat.zero_le _, Nat.zero_le _⟩ ((((h0.go 1).go 1).go 1).must _)
end Go.Proofs.YtaepgceodcdnhaaDoor.Frm
/- Frames by the engine: FrameReads. -/
namespace Go.Proofs.YtaepgceodcdnhaaDoor.Vm
open Go Go.RowKit
set_option maxRecDepth 100000
namespace X6
open Frm (Cmd Mem Ent Lvs Fm decR fm0)
theorem cutF_id2 {g : Fm} (h1 : g.ms.length ≤ 8) (h2 : g.es.length ≤ 16) : cutF g = g := by
  unfold cutF
  rw [List.take_of_length_le (by omega), List.take_of_length_le (by omega)]
theorem zC_0 : zC = frS fm0 (.v nilS) (.v nilS) := rfl
theorem frC_0 : frC fm0 = frS fm0 (.sl 3 []) (.sl 8 []) := rfl
theorem rel_zC {M : Pm} {v : Value} (r : Rel M (.agg zC) v) : Rel M (.agg (frC fm0)) v := by
  rw [zC_0] at r
  rw [frC_0]
  have r1 := rel_agg_set (cs := frS fm0 (.v nilS) (.v nilS)) (j := 24) (t := .v nilS) (t' := .sl 3 []) rfl (fun v r => rel_nil0 r) r
  exact rel_agg_set (cs := frS fm0 (.sl 3 []) (.v nilS)) (j := 33) (t := .v nilS) (t' := .sl 8 []) rfl (fun v r => rel_nil0 r) r1
theorem made_0 : TCalls Tryd.prog 16 [.agg zC] [] none_ (callPost (told (.agg (frC fm0)) [] [])) := by
  have h := made_any fm0 (Nat.zero_le _) (Nat.zero_le _)
  exact h.pre (Imp.slotR (ts := [.agg zC]) (j := 0) (t' := .agg (frC fm0)) rfl (fun M v r => rel_zC r))
theorem fsame_0 : TCalls Tryd.prog 15 [.agg zC, .agg (frC fm0)] [] none_ (callPost (told (bool true) [] [])) := by
  have h := fsame_any fm0 fm0 (Nat.zero_le _) (Nat.zero_le _)
  rw [decide_eq_true rfl] at h
  exact h.pre (Imp.slotR (ts := [.agg zC, .agg (frC fm0)]) (j := 0) (t' := .agg (frC fm0)) rfl (fun M v r => rel_zC r))
theorem reads_tail (Γ : Ctx) (l : List UInt8) (hl : l.length ≤ 10000) (Q : T → Obs → Glb → Prop) (hQ : Q (bool true) obsF none_) :
    TWk Tryd.prog Γ (fin Tryd.prog Tryd.f4 [0] Q) [.code (sub (bd Tryd.f4) [1, 1, 1, 1, 1])] ⟨frame 61 [(0, str l)], obsF, none_⟩ := by
  have c1 := dec_post l (by omega)
  have c2 := rdec_any l (by omega)
  have sm := Frm.decR_sml l (by omega)
  by_cases he : (decR l).2 = 0
  · have c3 := made_any (decR l).1 (by have := sm.ms; omega) (by have := sm.es; omega)
    have c4 := fsame_any (decR l).1 (decR l).1 (by have := sm.ms; omega) (by have := sm.es; omega)
    rw [decide_eq_true rfl] at c4
    rw [cutF_id2 sm.ms sm.es] at c3
    have hd : decT (decR l) = .tup [.agg (frC (decR l).1), int 0] := by unfold decT; rw [if_neg (fun h => h he)]
    rw [hd] at c1 c2
    clear hd he sm
    generalize (decR l).1 = g at *
    unfold obsF at *
    generalize fixF = F at *
    unfold frC at *
    generalize Row.aggs memC g.ms = M3 at *
    generalize Row.aggs entC g.es = E3 at *
    refine run_sound (⟨fun | 9, 1 => told (.tup [.agg (frS g (.sl 3 M3) (.sl 8 E3)), int 0]) [0] [(0, .fix F)] | 10, 1 => told (.tup [.agg (frS g (.sl 3 M3) (.sl 8 E3)), int 0]) [] [] | 11, 6 => told (.agg (frS g (.sl 3 M3) (.sl 8 E3))) [] [] | 11, 7 => told (bool true) [] [] | _, _ => .no, [], fun | 5 => some ⟨[], [3, 4], .take true [0,1,2] (.take false [5,6] (.one 3 (.one 4 (.take false [7,8] .done))))⟩ | 11 => some ⟨[1, 2], [7], .take true [0,1,2,3,4,5] (.one 6 (.one 7 (.take false [8,9] .done)))⟩ | _ => none⟩) 400 (B := TCalls Tryd.prog 13 [str l] [(0, Ob.fix F)] none_ (callPost (Hint.call false Unit (fun x => True) [0] false (fun x => T.tup [T.agg (frS g (T.sl 3 M3) (T.sl 8 E3)), int 0]) (fun x => [(0, Ob.fix F)]) fun x => none_)) ∧ ∀ (a : Unit), True → ∀ (b : Nat), (34 = nat_lit 34 ∧ List.all (frS g (T.sl 3 M3) (T.sl 8 E3)) T.one = true) ∧ b = b ∧ 0 + nat_lit 34 ≤ 34 ∧ TCalls Tryd.prog 14 [str l] [] none_ (callPost (Hint.call false Unit (fun x => True) [] false (fun x => T.tup [T.agg (frS g (T.sl 3 M3) (T.sl 8 E3)), int 0]) (fun x => []) fun x => none_)) ∧ ∀ (a : Unit), True → ∀ (b_1 : Nat), (34 = nat_lit 34 ∧ List.all (frS g (T.sl 3 M3) (T.sl 8 E3)) T.one = true) ∧ b_1 = b_1 ∧ 0 + nat_lit 34 ≤ 34 ∧ b = b ∧ b_1 = b_1 ∧ TCalls Tryd.prog 16 [T.agg (frS g (T.sl 3 M3) (T.sl 8 E3))] [] none_ (callPost (Hint.call false Unit (fun x => True) [] false (fun x => T.agg (frS g (T.sl 3 M3) (T.sl 8 E3))) (fun x => []) fun x => none_)) ∧ ∀ (a : Unit), True → TCalls Tryd.prog 15 [T.agg (frS g (T.sl 3 M3) (T.sl 8 E3)), T.agg (frS g (T.sl 3 M3) (T.sl 8 E3))] [] none_ (callPost (Hint.call false Unit (fun x => True) [] false (fun x => bool true) (fun x => []) fun x => none_)) ∧ ∀ (a : Unit), True → Q (bool true) [(0, Ob.fix F)] fun x => none) (by kernel_rfl) ?_
    repeat' (first | exact rfl | exact Nat.le_of_ble_eq_true rfl | refine And.intro ?_ ?_ | intro _ | refine bsplit_mk (fun _ => ?_) (fun _ => ?_))
    all_goals first
      | exact c1
      | exact c2
      | exact c3
      | exact c4
      | exact hQ
      | (clear c1 c2 c3 c4; trace_state)
  · have c3 := made_0
    have c4 := fsame_0
    have hd : decT (decR l) = .tup [.agg zC, int (decR l).2] := by unfold decT; rw [if_pos he]
    rw [hd] at c1 c2
    clear hd he sm
    generalize (decR l).2 = e at *
    have hee : (e == e) = true := by simp
    unfold obsF at *
    generalize fixF = F at *
    refine run_sound (⟨fun | 9, 1 => told (.tup [.agg zC, int e]) [0] [(0, .fix F)] | 10, 1 => told (.tup [.agg zC, int e]) [] [] | 11, 6 => told (.agg (frC fm0)) [] [] | 11, 7 => told (bool true) [] [] | _, _ => .no, [], fun | 5 => some ⟨[], [3, 4], .take true [0,1,2] (.take false [5,6] (.one 3 (.one 4 (.take false [7,8] .done))))⟩ | 11 => some ⟨[1, 2], [7], .take true [0,1,2,3,4,5] (.one 6 (.one 7 (.take false [8,9] .done)))⟩ | _ => none⟩) 400 (B := TCalls Tryd.prog 13 [str l] [(0, Ob.fix F)] none_ (callPost (Hint.call false Unit (fun x => True) [0] false (fun x => T.tup [T.agg zC, int e]) (fun x => [(0, Ob.fix F)]) fun x => none_)) ∧ ∀ (a : Unit), True → ∀ (b : Nat), (34 = nat_lit 34 ∧ List.all zC T.one = true) ∧ b = b ∧ 0 + nat_lit 34 ≤ 34 ∧ TCalls Tryd.prog 14 [str l] [] none_ (callPost (Hint.call false Unit (fun x => True) [] false (fun x => T.tup [T.agg zC, int e]) (fun x => []) fun x => none_)) ∧ ∀ (a : Unit), True → ∀ (b_1 : Nat), (34 = nat_lit 34 ∧ List.all zC T.one = true) ∧ b_1 = b_1 ∧ 0 + nat_lit 34 ≤ 34 ∧ bsplit (e == e) (b = b ∧ b_1 = b_1 ∧ TCalls Tryd.prog 16 [T.agg zC] [] none_ (callPost (Hint.call false Unit (fun x => True) [] false (fun x => T.agg (frC fm0)) (fun x => []) fun x => none_)) ∧ ∀ (a : Unit), True → TCalls Tryd.prog 15 [T.agg zC, T.agg (List.set (List.set (List.set (frS fm0 (T.sl 3 []) (T.sl 8 [])) 8 (bool false)) 10 (bool false)) 11 (bool false))] [] none_ (callPost (Hint.call false Unit (fun x => True) [] false (fun x => bool true) (fun x => []) fun x => none_)) ∧ ∀ (a : Unit), True → Q (bool true) [(0, Ob.fix F)] fun x => none) (Q (bool false) [(0, Ob.fix F)] fun x => none)) (by kernel_rfl) ?_
    repeat' (first | exact rfl | exact Nat.le_of_ble_eq_true rfl | refine And.intro ?_ ?_ | intro _ | refine bsplit_mk (fun _ => ?_) (fun _ => ?_))
    all_goals first
      | exact c1
      | exact c2
      | exact c3
      | exact c4
      | exact hQ
      | (rw [hee]; exact hQ)
      | (exfalso; rename_i h; rw [hee] at h; cases h; done)
      | (clear c1 c2 c3 c4; trace_state)
theorem reads_seal (Γ : Ctx) (l : List UInt8) (b : Bool) (hl : l.length ≤ 1000) (Q : T → Obs → Glb → Prop) (hQ : Q (bool true) obsF none_) :
    TWk Tryd.prog Γ (fin Tryd.prog Tryd.f4 [0] Q) [.code (sub (bd Tryd.f4) [1, 1, 1, 1])] ⟨frame 61 [(0, str l), (1, bool b)], obsF, none_⟩ := by
  have hs := X2.seal_any l (by omega) _ (fun x h => told_post (sel := []) (ob := []) h)
  have hsl : (Crc.sealL l).length = l.length + 4 := by unfold Crc.sealL; rw [List.length_append]; rfl
  cases b with
  | true =>
    have tl := reads_tail Γ (Crc.sealL l) (by omega) Q hQ
    clear hQ
    generalize Crc.sealL l = S at *
    unfold obsF at *
    generalize fixF = F at *
    refine run_sound (⟨fun | 8, 1 => told (str S) [] [] | _, _ => .no, [((0, 9), ([0], 1))], fun | 5 => some ⟨[], [3, 4], .take true [0,1,2] (.take false [5,6] (.one 3 (.one 4 (.take false [7,8] .done))))⟩ | 11 => some ⟨[], [7], .take true [0,1,2,3,4,5] (.one 6 (.one 7 (.take false [8,9] .done)))⟩ | _ => none⟩) 400 (B := TCalls Tryd.prog 17 [str l] [] none_ (callPost (Hint.call false Unit (fun x => True) [] false (fun x => str S) (fun x => []) fun x => none_)) ∧ ∀ (a : Unit), True → TWk Tryd.prog Γ (fin Tryd.prog Tryd.f4 [0] Q) [It.code (sub (bd Tryd.f4) [1, 1, 1, 1, 1])] { fr := frame 61 [(0, str S)], ob := [(0, Ob.fix F)], gl := fun x => none }) (by kernel_rfl) ?_
    repeat' (first | exact rfl | exact Nat.le_of_ble_eq_true rfl | refine And.intro ?_ ?_ | intro _ | refine bsplit_mk (fun _ => ?_) (fun _ => ?_))
    all_goals first
      | exact hs
      | exact tl
      | (clear tl; trace_state)
  | false =>
    have tl := reads_tail Γ l (by omega) Q hQ
    clear hQ
    unfold obsF at *
    generalize fixF = F at *
    refine run_sound (⟨fun | 8, 1 => .no | _, _ => .no, [((0, 9), ([0], 1))], fun | 5 => some ⟨[], [3, 4], .take true [0,1,2] (.take false [5,6] (.one 3 (.one 4 (.take false [7,8] .done))))⟩ | 11 => some ⟨[], [7], .take true [0,1,2,3,4,5] (.one 6 (.one 7 (.take false [8,9] .done)))⟩ | _ => none⟩) 400 (B := TWk Tryd.prog Γ (fin Tryd.prog Tryd.f4 [0] Q) [It.code (sub (bd Tryd.f4) [1, 1, 1, 1, 1])] { fr := frame 61 [(0, str l)], ob := [(0, Ob.fix F)], gl := fun x => none }) (by kernel_rfl) ?_
    repeat' (first | exact rfl | exact Nat.le_of_ble_eq_true rfl | refine And.intro ?_ ?_ | intro _ | refine bsplit_mk (fun _ => ?_) (fun _ => ?_))
    all_goals first
      | exact tl
      | (clear tl; trace_state)
theorem reads_cut (Γ : Ctx) (l : List UInt8) (b : Bool) (cut : Nat) (hc : cut < 256) (h0 : 0 < l.length) (hl : l.length ≤ 1000) (Q : T → Obs → Glb → Prop) (hQ : Q (bool true) obsF none_) :
    TWk Tryd.prog Γ (fin Tryd.prog Tryd.f4 [0] Q) [.code (sub (bd Tryd.f4) [1, 1, 1, 0, 1, 0, 1]), .code (sub (bd Tryd.f4) [1, 1, 1, 1])] ⟨frame 61 [(0, str l), (1, bool b), (2, u8 cut)], obsF, none_⟩ := by
  have hm : cut % l.length < l.length := Nat.mod_lt _ h0
  have hsz : (⟨l.toArray⟩ : ByteArray).size = l.length := by show l.toArray.size = _; simp
  have tl := reads_seal Γ (l.take (l.length - cut % l.length)) b (by rw [List.length_take]; omega) Q hQ
  have hcut : T.v (.string ((⟨l.toArray⟩ : ByteArray).extract (((0 : Nat) : Int)).toNat (((l.length - cut % l.length : Nat) : Int)).toNat)) = str (l.take (l.length - cut % l.length)) := by
    rw [X1.str_cut]; rfl
  rw [← hcut] at tl
  have w1 : T.v (.int .i64 (IntKind.wrap .i64 (cut : Int))) = int (cut : Nat) := congrArg int (wrap_i64 (by omega) (by omega))
  have w2 : T.v (.int .i64 ((cut : Int).tmod (((⟨l.toArray⟩ : ByteArray).size : Nat) : Int))) = int (cut % l.length : Nat) := congrArg int (by rw [hsz, Int.tmod_eq_emod_of_nonneg (by omega)]; omega)
  have w3 : T.v (.int .i64 (IntKind.wrap .i64 ((((⟨l.toArray⟩ : ByteArray).size : Nat) : Int) - ((cut % l.length : Nat) : Int)))) = int (l.length - cut % l.length : Nat) := congrArg int (by rw [hsz, wrap_i64 (by omega) (by omega)]; omega)
  clear hQ hcut
  generalize hg : cut % l.length = m at *
  unfold obsF at *
  generalize fixF = F at *
  refine run_sound (⟨fun | 6, 4 => .res (int (cut : Nat)) | 6, 7 => .res (int (m : Nat)) | 6, 8 => .res (int (l.length - m : Nat)) | _, _ => .no, [((0, 7), ([0, 1], 1))], fun | 5 => some ⟨[], [3, 4], .take true [0,1,2] (.take false [5,6] (.one 3 (.one 4 (.take false [7,8] .done))))⟩ | 11 => some ⟨[], [7], .take true [0,1,2,3,4,5] (.one 6 (.one 7 (.take false [8,9] .done)))⟩ | _ => none⟩) 400 (B := int (IntKind.wrap IntKind.i64 (↑cut : Int)) = int cut ∧ ¬(↑(ByteArray.size (ByteArray.mk (List.toArray l))) : Int) = (0 : Int) ∧ int (Int.tmod (↑cut : Int) (↑(ByteArray.size (ByteArray.mk (List.toArray l))) : Int)) = int m ∧ int (IntKind.wrap IntKind.i64 ((↑(ByteArray.size (ByteArray.mk (List.toArray l))) : Int) - (↑m : Int))) = int (↑(List.length l - m) : Int) ∧ ((0 : Int) ≤ (↑(0 : Nat) : Int) ∧ (↑(0 : Nat) : Int) ≤ Prod.snd (IntKind.i64, (↑(List.length l - m) : Int)) ∧ Prod.snd (IntKind.i64, (↑(List.length l - m) : Int)) ≤ (↑(ByteArray.size (ByteArray.mk (List.toArray l))) : Int)) ∧ TWk Tryd.prog Γ (fin Tryd.prog Tryd.f4 [0] Q) [It.code (sub (bd Tryd.f4) [1, 1, 1, 1])] { fr := frame 61 [(0, T.v (Value.string (ByteArray.extract (ByteArray.mk (List.toArray l)) (Int.toNat (↑(0 : Nat) : Int)) (Int.toNat (Prod.snd (IntKind.i64, (↑(List.length l - m) : Int))))))), (1, bool b)], ob := [(0, Ob.fix F)], gl := fun x => none }) (by kernel_rfl) ?_
  repeat' (first | exact rfl | exact Nat.le_of_ble_eq_true rfl | refine And.intro ?_ ?_ | intro _ | refine bsplit_mk (fun _ => ?_) (fun _ => ?_))
  all_goals first
    | exact tl
    | exact w1
    | exact w2
    | exact w3
    | (show (0 : Int) ≤ 0; decide)
    | (show (0 : Int) ≤ ((l.length - m : Nat) : Int); omega)
    | (show ((l.length - m : Nat) : Int) ≤ (((⟨l.toArray⟩ : ByteArray).size : Nat) : Int); rw [hsz]; omega)
    | (rw [hsz]; omega)
    | (rename_i h; rw [hsz] at h; omega)
    | (clear tl; trace_state)
theorem reads_kind (Γ : Ctx) (l : List UInt8) (b : Bool) (cut : Nat) (hc : cut < 256) (hl : l.length ≤ 200) (Q : T → Obs → Glb → Prop) (hQ : Q (bool true) obsF none_) :
    TWk Tryd.prog Γ (fin Tryd.prog Tryd.f4 [0] Q) [.code (sub (bd Tryd.f4) [1, 1, 1])] ⟨frame 61 [(0, str l), (1, bool b), (2, u8 cut)], obsF, none_⟩ := by
  cases l with
  | nil =>
    have tl := reads_seal Γ [] b (by decide) Q hQ
    clear hQ
    unfold obsF at *
    generalize fixF = F at *
    refine run_sound (⟨fun | 5, 1 => .no | _, _ => .no, [((0, 7), ([0, 1], 1)), ((0, 5), ([0, 1, 2], 1))], fun | 5 => some ⟨[], [3, 4], .take true [0,1,2] (.take false [5,6] (.one 3 (.one 4 (.take false [7,8] .done))))⟩ | 11 => some ⟨[], [7], .take true [0,1,2,3,4,5] (.one 6 (.one 7 (.take false [8,9] .done)))⟩ | _ => none⟩) 400 (B := TWk Tryd.prog Γ (fin Tryd.prog Tryd.f4 [0] Q) [It.code (sub (bd Tryd.f4) [1, 1, 1, 1])] { fr := frame 61 [(0, str []), (1, bool b)], ob := [(0, Ob.fix F)], gl := fun x => none }) (by kernel_rfl) ?_
    repeat' (first | exact rfl | exact Nat.le_of_ble_eq_true rfl | refine And.intro ?_ ?_ | intro _ | refine bsplit_mk (fun _ => ?_) (fun _ => ?_))
    all_goals first
      | exact tl
      | (exfalso; rename_i h; simp at h; done)
      | (clear tl; trace_state)
  | cons c r =>
    have hsz : (⟨(c :: r).toArray⟩ : ByteArray).size = r.length + 1 := by show (c :: r).toArray.size = _; simp
    have tl := reads_cut Γ (UInt8.ofNat (c.toNat % 18) :: r) b cut hc (by simp) (by rw [List.length_cons] at hl ⊢; omega) Q hQ
    have hx := str_at (c :: r) 0 (by simp)
    have hx : ((⟨(c :: r).toArray⟩ : ByteArray)[((0 : Nat) : Int).toNat]?).map (fun c : UInt8 => T.v (.int .u8 c.toNat)) = some (u8 c.toNat) := hx
    have hm : T.v (.int .u8 ((c.toNat : Int).tmod 18)) = u8 (UInt8.ofNat (c.toNat % 18)).toNat := congrArg u8 (by rw [Int.tmod_eq_emod_of_nonneg (by omega), UInt8.toNat_ofNat']; omega)
    have hcut : (⟨(c :: r).toArray⟩ : ByteArray).extract (((1 : Nat) : Int)).toNat ((((⟨(c :: r).toArray⟩ : ByteArray).size : Nat) : Int)).toNat = ⟨r.toArray⟩ := by
      rw [bs_cut, hsz, Int.toNat_natCast, Int.toNat_natCast, List.take_of_length_le (by simp)]; rfl
    have hcat : T.v (.string ((⟨[UInt8.ofNat (c.toNat % 18)].toArray⟩ : ByteArray) ++ (⟨(c :: r).toArray⟩ : ByteArray).extract (((1 : Nat) : Int)).toNat ((((⟨(c :: r).toArray⟩ : ByteArray).size : Nat) : Int)).toNat)) = str (UInt8.ofNat (c.toNat % 18) :: r) := by
      rw [hcut]; exact catL [UInt8.ofNat (c.toNat % 18)] r
    have hok : (⟨[UInt8.ofNat (c.toNat % 18)].toArray⟩ : ByteArray).size + ((⟨(c :: r).toArray⟩ : ByteArray).extract (((1 : Nat) : Int)).toNat ((((⟨(c :: r).toArray⟩ : ByteArray).size : Nat) : Int)).toNat).size ≤ 9223372036854775807 := by
      rw [hcut]; exact cat_ok [UInt8.ofNat (c.toNat % 18)] r (by rw [List.length_cons] at hl; simp; omega)
    clear hQ hcut
    generalize UInt8.ofNat (c.toNat % 18) = y at *
    unfold obsF at *
    generalize fixF = F at *
    refine run_sound (⟨fun | 5, 1 => .res (u8 c.toNat) | 5, 2 => .res (u8 y.toNat) | 5, 4 => .res (str [y]) | 5, 7 => .res (str (y :: r)) | _, _ => .no, [((0, 6), ([0, 1, 2], 1)), ((0, 7), ([0, 1], 1))], fun | 5 => some ⟨[], [3, 4], .take true [0,1,2] (.take false [5,6] (.one 3 (.one 4 (.take false [7,8] .done))))⟩ | 11 => some ⟨[], [7], .take true [0,1,2,3,4,5] (.one 6 (.one 7 (.take false [8,9] .done)))⟩ | _ => none⟩) 400 (B := bsplit (decide ((↑(ByteArray.size (ByteArray.mk (List.toArray (c :: r)))) : Int) > (0 : Int))) ((0 : Int) ≤ (0 : Int) ∧ some (u8 (UInt8.toNat (ByteArray.mk (List.toArray (c :: r)))[Int.toNat (0 : Int)])) = some (u8 (UInt8.toNat c)) ∧ u8 (Int.tmod (↑(UInt8.toNat c) : Int) (18 : Int)) = u8 (UInt8.toNat y) ∧ ((0 : Int) ≤ Prod.snd (IntKind.i64, (1 : Int)) ∧ Prod.snd (IntKind.i64, (1 : Int)) ≤ (↑(ByteArray.size (ByteArray.mk (List.toArray (c :: r)))) : Int) ∧ (↑(ByteArray.size (ByteArray.mk (List.toArray (c :: r)))) : Int) ≤ (↑(ByteArray.size (ByteArray.mk (List.toArray (c :: r)))) : Int)) ∧ [u8 (UInt8.toNat y)] = [u8 (UInt8.toNat y)] ∧ ByteArray.size (ByteArray.mk (#[y])) + ByteArray.size (ByteArray.extract (ByteArray.mk (List.toArray (c :: r))) (Int.toNat (Prod.snd (IntKind.i64, (1 : Int)))) (Int.toNat (↑(ByteArray.size (ByteArray.mk (List.toArray (c :: r)))) : Int))) ≤ 9223372036854775807 ∧ some (T.v (Value.string ((ByteArray.mk (#[y])) ++ ByteArray.extract (ByteArray.mk (List.toArray (c :: r))) (Int.toNat (Prod.snd (IntKind.i64, (1 : Int)))) (Int.toNat (↑(ByteArray.size (ByteArray.mk (List.toArray (c :: r)))) : Int))))) = some (str (y :: r)) ∧ TWk Tryd.prog Γ (fin Tryd.prog Tryd.f4 [0] Q) [It.code (sub (bd Tryd.f4) [1, 1, 1, 0, 1, 0, 1]), It.code (sub (bd Tryd.f4) [1, 1, 1, 1])] { fr := frame 61 [(0, str (y :: r)), (1, bool b), (2, u8 cut)], ob := [(0, Ob.fix F)], gl := fun x => none }) (TWk Tryd.prog Γ (fin Tryd.prog Tryd.f4 [0] Q) [It.code (sub (bd Tryd.f4) [1, 1, 1, 1])] { fr := frame 61 [(0, str (c :: r)), (1, bool b)], ob := [(0, Ob.fix F)], gl := fun x => none })) (by kernel_rfl) ?_
    repeat' (first | exact rfl | exact Nat.le_of_ble_eq_true rfl | refine And.intro ?_ ?_ | intro _ | refine bsplit_mk (fun _ => ?_) (fun _ => ?_))
    all_goals first
      | exact tl
      | exact hx
      | exact hm
      | exact hcat
      | exact congrArg some hcat
      | exact hok
      | exact Int.le_refl _
      | (show (0 : Int) ≤ 0; decide)
      | (show (0 : Int) ≤ 1; decide)
      | (show (1 : Int) ≤ (((⟨(c :: r).toArray⟩ : ByteArray).size : Nat) : Int); rw [hsz]; omega)
      | (exfalso; rename_i h; have h := of_decide_eq_false h; rw [hsz] at h; omega)
      | (clear tl; trace_state)
theorem reads_any (s : List UInt8) (b : Bool) (cut : Nat) (hc : cut < 256) (Q : T → Obs → Glb → Prop) (hQ : Q (bool true) obsF none_) : TCalls Tryd.prog 4 [str s, bool b, u8 cut] obsF none_ Q := by
  have sp := speaks_any
  have hsz : (⟨s.toArray⟩ : ByteArray).size = s.length := by show s.toArray.size = _; simp
  have tl := fun (Γ : Ctx) => reads_kind Γ (s.take 150) b cut hc (by rw [List.length_take]; omega) Q hQ
  have hcut : T.v (.string ((⟨s.toArray⟩ : ByteArray).extract (((0 : Nat) : Int)).toNat (if (150 : Int) < (((⟨s.toArray⟩ : ByteArray).size : Nat) : Int) then (150 : Int) else (((⟨s.toArray⟩ : ByteArray).size : Nat) : Int)).toNat)) = str (s.take 150) := by
    rw [hsz, X1.str_cut]
    refine congrArg str ?_
    show (s.take _).drop 0 = _
    rw [List.drop_zero]
    by_cases g : (150 : Int) < ((s.length : Nat) : Int)
    · rw [if_pos g]; rfl
    · rw [if_neg g, List.take_of_length_le (by omega), List.take_of_length_le (by omega)]
  rw [← hcut] at tl
  clear hQ hcut
  unfold obsF at *
  generalize fixF = F at *
  refine TCalls.of Tryd.func4 rfl (CanCall.of Tryd.func4 rfl (by decide)) [0] fun Γ => ?_
  refine run_sound (⟨fun | 1, 0 => told (bool true) [0] [(0, .fix F)] | _, _ => .no, [((0, 4), ([0, 1, 2], 1))], fun | 5 => some ⟨[], [3, 4], .take true [0,1,2] (.take false [5,6] (.one 3 (.one 4 (.take false [7,8] .done))))⟩ | 11 => some ⟨[], [7], .take true [0,1,2,3,4,5] (.one 6 (.one 7 (.take false [8,9] .done)))⟩ | _ => none⟩) 400 (B := TCalls Tryd.prog 9 [] [(0, Ob.fix F)] none_ (callPost (Hint.call false Unit (fun x => True) [0] false (fun x => bool true) (fun x => [(0, Ob.fix F)]) fun x => none_)) ∧ ∀ (a : Unit), True → ((0 : Int) ≤ (↑(0 : Nat) : Int) ∧ (↑(0 : Nat) : Int) ≤ Prod.snd (IntKind.i64, if (150 : Int) < (↑(ByteArray.size (ByteArray.mk (List.toArray s))) : Int) then (150 : Int) else (↑(ByteArray.size (ByteArray.mk (List.toArray s))) : Int)) ∧ Prod.snd (IntKind.i64, if (150 : Int) < (↑(ByteArray.size (ByteArray.mk (List.toArray s))) : Int) then (150 : Int) else (↑(ByteArray.size (ByteArray.mk (List.toArray s))) : Int)) ≤ (↑(ByteArray.size (ByteArray.mk (List.toArray s))) : Int)) ∧ TWk Tryd.prog Γ (fin Tryd.prog Tryd.f4 [0] Q) [It.code (sub (bd Tryd.f4) [1, 1, 1])] { fr := frame 61 [(0, T.v (Value.string (ByteArray.extract (ByteArray.mk (List.toArray s)) (Int.toNat (↑(0 : Nat) : Int)) (Int.toNat (Prod.snd (IntKind.i64, if (150 : Int) < (↑(ByteArray.size (ByteArray.mk (List.toArray s))) : Int) then (150 : Int) else (↑(ByteArray.size (ByteArray.mk (List.toArray s))) : Int))))))), (1, bool b), (2, u8 cut)], ob := [(0, Ob.fix F)], gl := fun x => none }) (by kernel_rfl) ?_
  repeat' (first | exact rfl | exact Nat.le_of_ble_eq_true rfl | refine And.intro ?_ ?_ | intro _ | refine bsplit_mk (fun _ => ?_) (fun _ => ?_))
  all_goals first
    | exact sp
    | exact tl Γ
    | (show (0 : Int) ≤ 0; decide)
    | (show (0 : Int) ≤ (if (150 : Int) < (((⟨s.toArray⟩ : ByteArray).size : Nat) : Int) then (150 : Int) else (((⟨s.toArray⟩ : ByteArray).size : Nat) : Int)); split <;> omega)
    | (show (if (150 : Int) < (((⟨s.toArray⟩ : ByteArray).size : Nat) : Int) then (150 : Int) else (((⟨s.toArray⟩ : ByteArray).size : Nat) : Int)) ≤ (((⟨s.toArray⟩ : ByteArray).size : Nat) : Int); split <;> omega)
    | (clear tl; trace_state)
end X6
end Go.Proofs.YtaepgceodcdnhaaDoor.Vm
