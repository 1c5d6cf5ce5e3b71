/- Texts of this claim: RqD, RqE. -/
import Derived.Test.YtafcbipmmjegcaaMg15
import Derived.Test.YtafcbipmmjegcaaMg35
import Derived.Test.YtafcbipmmjegcaaMg36
import Derived.Test.YtafcbipmmjegcaaMg37
import Derived.Test.YtafcbipmmjegcaaMg38
import Derived.Test.YtafcbipmmjegcaaMg40
namespace Go.Proofs.Ytafcbipmmjegcaa.Vm
open Go Go.RowKit
set_option maxRecDepth 100000
noncomputable abbrev kRqD0 (l : List Nat) : It := .code (sub (bd Try.f7) l)
noncomputable abbrev wRqD1 (Γ : Ctx) (Q : T → Obs → Glb → Prop) : List It → S → Prop := TWk Try.prog Γ (fin Try.prog Try.f7 [] Q)
def plRqD0 : Nat → Option RPlan := fun | 6 => some ⟨[], [7], .take true [0,1,2,4,5,6] (.one 3 (.one 7 (.take false [8,9] .done)))⟩ | 16 => some ⟨[], [8, 9], .take true [0,1,2,3,4,6,7] (.one 5 (.one 8 (.one 9 .done)))⟩ | 17 => some ⟨[], [8], .take true [0,1,2,3,4,6,7] (.one 5 (.one 8 .done))⟩ | _ => none
namespace X20
open Rep (Stp Wrd Cel Drv Plc RS Fm Ev setP setC)
open View (Mem VS)
open X5 (viewC lim mems)
structure Ply where
  n : Nat
  self : Nat
  w : Bool
  every : Nat
  replay : Nat
  A : List Act
def obsPly (x : Ply) : List T := [u8 x.n, u8 x.self, bool x.w, u8 x.every, u8 x.replay, .sl 13 (Row.aggs acC x.A)]
def obsL (b br b1 bv : Nat) (x : Ply) (r r2 : RS) (D D' : Dr) (F : List Fm) (hf : Value) (E : List Ev) (he : Value) (v : VS) : Obs := [(b, .cells (repU r D F hf E he)), (0, .room 34 70 (Row.aggs frC F).length hf), (0, .room 5 73 (Row.aggs evC E).length he), (br, .cells (repC r2 D')), (b1, .cells (obsPly x)), (bv, .cells (viewC v))]
def obsM (b br b1 bv ba bo : Nat) (x : Ply) (r r2 : RS) (D D' : Dr) (F : List Fm) (hf : Value) (E : List Ev) (he : Value) (v : VS) (y : Act) (o1 o2 : T) : Obs := [(b, .cells (repU r D F hf E he)), (0, .room 34 70 (Row.aggs frC F).length hf), (0, .room 5 73 (Row.aggs evC E).length he), (br, .cells (repC r2 D')), (b1, .cells (obsPly x)), (bv, .cells (viewC v)), (ba, .cells (acC y)), (bo, .cells [o1, o2])]
theorem pl33 (Γ : Ctx) (b br b1 bv ba bo : Nat) (x : Ply) (self every replay : Nat) (i : Int) (v : VS) (y : Act) (r : RS) (D D' : Dr) (F : List Fm) (hf : Value) (E : List Ev) (he : Value) (gl : Glb) (ho : Own D r gl) (ho' : Own D' r gl) (hl : lim r.v.ms) (hF : F.length ≤ 1000000) (hE : E.length ≤ 1000000) (h0 : 0 ≤ i) (h1 : i ≤ 100) (Q : T → Obs → Glb → Prop)
    (nx : wRqD1 Γ Q [kRqD0 [1,1,1,1,1,1,1,1,0,1,0], .blk 0, kRqD0 [1,1,1,1,1,1,1,1,1]] ⟨frame 183 [(1, .ptr 4 b1 0), (4, u8 self), (5, int every), (6, int replay), (7, .ptr 3 br 0), (8, .ptr 0 b 0), (9, .ptr 5 bv 0), (10, int (i + 1))], obsL b br b1 bv x r r D D' [] nilS [] nilS v, gl⟩) :
    wRqD1 Γ Q [kRqD0 [1,1,1,1,1,1,1,1,0,1,0,0,1,0,0,1,1,1], .blk 1, kRqD0 [1,1,1,1,1,1,1,1,0,1,0,0,1,1], kRqD0 [1,1,1,1,1,1,1,1,0,1,0], .blk 0, kRqD0 [1,1,1,1,1,1,1,1,1]] ⟨frame 183 [(1, .ptr 4 b1 0), (4, u8 self), (5, int every), (6, int replay), (7, .ptr 3 br 0), (8, .ptr 0 b 0), (9, .ptr 5 bv 0), (10, int i), (12, .ptr 7 bo 0)], obsM b br b1 bv ba bo x r r D D' F hf E he v y (.sl 34 (Row.aggs frC F)) (.sl 5 (Row.aggs evC E)), gl⟩ := by
  have hw : IntKind.wrap .i64 (i + 1) = i + 1 := wrap_i64 (by omega) (by omega)
  have hc := tsame_any b br r D D' F hf E he gl ho ho' hl hF hE
  let HH : Nat → Nat → Hint := fun | 33, 3 => .plainAt [3] (toldG (bool true) [0,1,2,3] (obsP b br r D D' [] nilS [] nilS) gl) | 12, 1 => .res (int (i + 1)) | _, _ => .no
  exact run_sound ⟨HH, [((2, 11), ([1,4,5,6,7,8,9,10], 6))], plRqD0⟩ 400 (by kernel_rfl) (Yb bo (Ya (Ya (repC_plain r D') Yt) (Ya (hc (HH 33 3).P (toldG_post rfl)) (Yu (Ya (Ya (repC_plain r D') Yt) (Ya (congrArg int hw) nx))))))
theorem pl20 (Γ : Ctx) (b br b1 bv ba bo : Nat) (x : Ply) (self every replay : Nat) (i : Int) (v : VS) (y : Act) (r r2 : RS) (D D' : Dr) (F : List Fm) (E : List Ev) (gl : Glb) (Q : T → Obs → Glb → Prop) (hc : ∀ Q' : T → Obs → Glb → Prop, (∀ D2 gl2 hf he, Own D2 r2 gl2 → Step gl D r gl2 D2 r2 → Q' (.tup []) (obsU b r2 D2 F hf E he) gl2) → TCalls Try.prog 27 [.ptr 0 b 0, int every, int replay, bool y.lease] (obsU b r D [] nilS [] nilS) gl Q')
    (nx : ∀ D2 gl2 hf he, Own D2 r2 gl2 → Step gl D r gl2 D2 r2 → wRqD1 Γ Q [kRqD0 [1,1,1,1,1,1,1,1,0,1,0,0,1,0,0,1,1,1], .blk 1, kRqD0 [1,1,1,1,1,1,1,1,0,1,0,0,1,1], kRqD0 [1,1,1,1,1,1,1,1,0,1,0], .blk 0, kRqD0 [1,1,1,1,1,1,1,1,1]] ⟨frame 183 [(1, .ptr 4 b1 0), (4, u8 self), (5, int every), (6, int replay), (7, .ptr 3 br 0), (8, .ptr 0 b 0), (9, .ptr 5 bv 0), (10, int i), (12, .ptr 7 bo 0)], obsM b br b1 bv ba bo x r2 r2 D2 D' F hf E he v y (.sl 34 (Row.aggs frC F)) (.sl 5 (Row.aggs evC E)), gl2⟩) :
    wRqD1 Γ Q [kRqD0 [1,1,1,1,1,1,1,1,0,1,0,0,1,0,0,1,1,0,1,0,1,0,1], .blk 2, kRqD0 [1,1,1,1,1,1,1,1,0,1,0,0,1,0,0,1,1,1], .blk 1, kRqD0 [1,1,1,1,1,1,1,1,0,1,0,0,1,1], kRqD0 [1,1,1,1,1,1,1,1,0,1,0], .blk 0, kRqD0 [1,1,1,1,1,1,1,1,1]] ⟨frame 183 [(1, .ptr 4 b1 0), (4, u8 self), (5, int every), (6, int replay), (7, .ptr 3 br 0), (8, .ptr 0 b 0), (9, .ptr 5 bv 0), (10, int i), (11, .ptr 6 ba 0), (12, .ptr 7 bo 0)], obsM b br b1 bv ba bo x r r2 D D' [] nilS [] nilS v y (.sl 34 (Row.aggs frC F)) (.sl 5 (Row.aggs evC E)), gl⟩ := by
  let HH : Nat → Nat → Hint := fun | 20, 5 => (.call false (Dr × Glb × Value × Value) (fun a => Own a.1 r2 a.2.1 ∧ Step gl D r a.2.1 a.1 r2) [0,1,2] true (fun _ => .tup []) (fun a => obsU b r2 a.1 F a.2.2.1 E a.2.2.2) (fun a => a.2.1)) | _, _ => .no
  exact run_sound ⟨HH, [((0, 33), ([1,4,5,6,7,8,9,10,12], 8))], plRqD0⟩ 400 (by kernel_rfl) (Yb ba (Ya (hc (HH 20 5).P fun D2 gl2 hf he h1 h2 => ⟨(D2, gl2, hf, he), ⟨h1, h2⟩, rfl, rfl, Nat.le_of_ble_eq_true rfl, fun _ => rfl⟩) (fun (Z0 : Dr × Glb × Value × Value) => (fun (Z1 : Own Z0.fst r2 Z0.snd.fst ∧ Step gl D r Z0.snd.fst Z0.fst r2) => (nx Z0.fst Z0.snd.fst Z0.snd.snd.fst Z0.snd.snd.snd Z1.1 Z1.2)))))
theorem pl19 (Γ : Ctx) (b br b1 bv ba bo : Nat) (x : Ply) (self every replay : Nat) (i : Int) (v : VS) (y : Act) (r r2 : RS) (D D' : Dr) (F : List Fm) (E : List Ev) (gl : Glb) (Q : T → Obs → Glb → Prop) (hc : ∀ Q' : T → Obs → Glb → Prop, (∀ D2 gl2, Own D2 r2 gl2 → Step gl D' r gl2 D2 r2 → Q' (outT F E) (obsR br r2 D2) gl2) → TCalls Try.prog 12 [.ptr 0 br 0, int every, int replay, bool y.lease] (obsR br r D') gl Q')
    (nx : ∀ D2 gl2, Own D2 r2 gl2 → Step gl D' r gl2 D2 r2 → wRqD1 Γ Q [kRqD0 [1,1,1,1,1,1,1,1,0,1,0,0,1,0,0,1,1,0,1,0,1,0,1], .blk 2, kRqD0 [1,1,1,1,1,1,1,1,0,1,0,0,1,0,0,1,1,1], .blk 1, kRqD0 [1,1,1,1,1,1,1,1,0,1,0,0,1,1], kRqD0 [1,1,1,1,1,1,1,1,0,1,0], .blk 0, kRqD0 [1,1,1,1,1,1,1,1,1]] ⟨frame 183 [(1, .ptr 4 b1 0), (4, u8 self), (5, int every), (6, int replay), (7, .ptr 3 br 0), (8, .ptr 0 b 0), (9, .ptr 5 bv 0), (10, int i), (11, .ptr 6 ba 0), (12, .ptr 7 bo 0)], obsM b br b1 bv ba bo x r r2 D D2 [] nilS [] nilS v y (.sl 34 (Row.aggs frC F)) (.sl 5 (Row.aggs evC E)), gl2⟩) :
    wRqD1 Γ Q [kRqD0 [1,1,1,1,1,1,1,1,0,1,0,0,1,0,0,1,1,0,1,0,1,0], .blk 2, kRqD0 [1,1,1,1,1,1,1,1,0,1,0,0,1,0,0,1,1,1], .blk 1, kRqD0 [1,1,1,1,1,1,1,1,0,1,0,0,1,1], kRqD0 [1,1,1,1,1,1,1,1,0,1,0], .blk 0, kRqD0 [1,1,1,1,1,1,1,1,1]] ⟨frame 183 [(1, .ptr 4 b1 0), (4, u8 self), (5, int every), (6, int replay), (7, .ptr 3 br 0), (8, .ptr 0 b 0), (9, .ptr 5 bv 0), (10, int i), (11, .ptr 6 ba 0), (12, .ptr 7 bo 0)], obsM b br b1 bv ba bo x r r D D' [] nilS [] nilS v y (.v nilS) (.v nilS), gl⟩ := by
  let HH : Nat → Nat → Hint := fun | 19, 5 => .plainAt [0] (.call false (Dr × Glb) (fun a => Own a.1 r2 a.2 ∧ Step gl D' r a.2 a.1 r2) [3] true (fun _ => outT F E) (fun a => obsR br r2 a.1) (fun a => a.2)) | _, _ => .no
  exact run_sound ⟨HH, [((0, 20), ([1,4,5,6,7,8,9,10,11,12], 8))], plRqD0⟩ 400 (by kernel_rfl) (Yb ba (Ya (Ya (repC_plain r D') Yt) (Ya (hc (HH 19 5).P fun D2 gl2 h1 h2 => ⟨(D2, gl2), ⟨h1, h2⟩, rfl, rfl, Nat.le_of_ble_eq_true rfl, fun _ => rfl⟩) (fun (Z0 : Dr × Glb) => (fun (Z1 : Own Z0.fst r2 Z0.snd ∧ Step gl D' r Z0.snd Z0.fst r2) => (Ya (Ya (repC_plain r2 Z0.fst) Yt) (Yk 2 bo (nx Z0.fst Z0.snd Z1.1 Z1.2))))))))
theorem pl24 (Γ : Ctx) (b br b1 bv ba bo : Nat) (x : Ply) (self every replay : Nat) (i : Int) (v : VS) (y : Act) (r r2 : RS) (D D' : Dr) (F : List Fm) (E : List Ev) (gl : Glb) (bw bs : Nat) (z : Stp) (ok : Bool) (Q : T → Obs → Glb → Prop) (hc : ∀ Q' : T → Obs → Glb → Prop, (∀ D2 gl2 hf he, Own D2 r2 gl2 → Step gl D r gl2 D2 r2 → Q' (.tup [.agg (stC z), bool ok]) (obsU b r2 D2 F hf E he) gl2) → TCalls Try.prog 28 [.ptr 0 b 0, u8 y.key, .agg [bool true, txt y.t], bool y.rmw] (obsU b r D [] nilS [] nilS) gl Q')
    (nx : ∀ D2 gl2 hf he, Own D2 r2 gl2 → Step gl D r gl2 D2 r2 → wRqD1 Γ Q [kRqD0 [1,1,1,1,1,1,1,1,0,1,0,0,1,0,0,1,1,1], .blk 1, kRqD0 [1,1,1,1,1,1,1,1,0,1,0,0,1,1], kRqD0 [1,1,1,1,1,1,1,1,0,1,0], .blk 0, kRqD0 [1,1,1,1,1,1,1,1,1]] ⟨frame 183 [(1, .ptr 4 b1 0), (4, u8 self), (5, int every), (6, int replay), (7, .ptr 3 br 0), (8, .ptr 0 b 0), (9, .ptr 5 bv 0), (10, int i), (12, .ptr 7 bo 0)], obsM b br b1 bv ba bo x r2 r2 D2 D' F hf E he v y (.sl 34 (Row.aggs frC F)) (.sl 5 (Row.aggs evC E)), gl2⟩) :
    wRqD1 Γ Q [kRqD0 [1,1,1,1,1,1,1,1,0,1,0,0,1,0,0,1,1,0,1,0,1,1,1,0,1], .blk 2, kRqD0 [1,1,1,1,1,1,1,1,0,1,0,0,1,0,0,1,1,1], .blk 1, kRqD0 [1,1,1,1,1,1,1,1,0,1,0,0,1,1], kRqD0 [1,1,1,1,1,1,1,1,0,1,0], .blk 0, kRqD0 [1,1,1,1,1,1,1,1,1]] ⟨frame 183 [(1, .ptr 4 b1 0), (4, u8 self), (5, int every), (6, int replay), (7, .ptr 3 br 0), (8, .ptr 0 b 0), (9, .ptr 5 bv 0), (10, int i), (11, .ptr 6 ba 0), (12, .ptr 7 bo 0), (13, .ptr 8 bw 0), (14, .ptr 9 bs 0), (15, bool ok)], (obsM b br b1 bv ba bo x r r2 D D' [] nilS [] nilS v y (.v nilS) (.v nilS) ++ [(bw, .cells [.sl 34 (Row.aggs frC F), .sl 5 (Row.aggs evC E)]), (bs, .cells (stC z))]), gl⟩ := by
  let HH : Nat → Nat → Hint := fun | 24, 8 => (.call false (Dr × Glb × Value × Value) (fun a => Own a.1 r2 a.2.1 ∧ Step gl D r a.2.1 a.1 r2) [0,1,2] true (fun _ => .tup [.agg (stC z), bool ok]) (fun a => obsU b r2 a.1 F a.2.2.1 E a.2.2.2) (fun a => a.2.1)) | _, _ => .no
  exact run_sound ⟨HH, [((0, 33), ([1,4,5,6,7,8,9,10,12], 8))], plRqD0⟩ 400 (by kernel_rfl) (Yb ba (Yb ba (Yb ba (Ya (hc (HH 24 8).P fun D2 gl2 hf he h1 h2 => ⟨(D2, gl2, hf, he), ⟨h1, h2⟩, rfl, rfl, Nat.le_of_ble_eq_true rfl, fun _ => rfl⟩) (fun (Z0 : Dr × Glb × Value × Value) => (fun (Z1 : Own Z0.fst r2 Z0.snd.fst ∧ Step gl D r Z0.snd.fst Z0.fst r2) => (fun (Z2 : Nat) => (Yk 3 Z2 (Ys (!ok == ok) (fun Z3 => (show Q (bool false) [] Z0.snd.fst by exfalso; simp at Z3; done)) (fun Z4 => (Yb bs (Yb Z2 (Ys (!((↑z.n : Int) == (↑z.n : Int) && ((↑z.b : Int) == (↑z.b : Int) && true) && ((↑z.l : Int) == (↑z.l : Int) && true))) (fun Z5 => (show Q (bool false) [] Z0.snd.fst by exfalso; simp at Z5; done)) (fun Z6 => (Yb bw (Yk 2 bo (nx Z0.fst Z0.snd.fst Z0.snd.snd.fst Z0.snd.snd.snd Z1.1 Z1.2)))))))))))))))))
theorem pl23 (Γ : Ctx) (b br b1 bv ba bo : Nat) (x : Ply) (self every replay : Nat) (i : Int) (v : VS) (y : Act) (r r2 : RS) (D D' : Dr) (F : List Fm) (E : List Ev) (gl : Glb) (z : Stp) (ok : Bool) (Q : T → Obs → Glb → Prop) (hc : ∀ Q' : T → Obs → Glb → Prop, (∀ D2 gl2, Own D2 r2 gl2 → Step gl D' r gl2 D2 r2 → Q' (.tup [outT F E, .agg (stC z), bool ok]) (obsR br r2 D2) gl2) → TCalls Try.prog 14 [.ptr 0 br 0, u8 y.key, .agg [bool true, txt y.t], bool y.rmw] (obsR br r D') gl Q')
    (nx : ∀ bw bs D2 gl2, Own D2 r2 gl2 → Step gl D' r gl2 D2 r2 → wRqD1 Γ Q [kRqD0 [1,1,1,1,1,1,1,1,0,1,0,0,1,0,0,1,1,0,1,0,1,1,1,0,1], .blk 2, kRqD0 [1,1,1,1,1,1,1,1,0,1,0,0,1,0,0,1,1,1], .blk 1, kRqD0 [1,1,1,1,1,1,1,1,0,1,0,0,1,1], kRqD0 [1,1,1,1,1,1,1,1,0,1,0], .blk 0, kRqD0 [1,1,1,1,1,1,1,1,1]] ⟨frame 183 [(1, .ptr 4 b1 0), (4, u8 self), (5, int every), (6, int replay), (7, .ptr 3 br 0), (8, .ptr 0 b 0), (9, .ptr 5 bv 0), (10, int i), (11, .ptr 6 ba 0), (12, .ptr 7 bo 0), (13, .ptr 8 bw 0), (14, .ptr 9 bs 0), (15, bool ok)], (obsM b br b1 bv ba bo x r r2 D D2 [] nilS [] nilS v y (.v nilS) (.v nilS) ++ [(bw, .cells [.sl 34 (Row.aggs frC F), .sl 5 (Row.aggs evC E)]), (bs, .cells (stC z))]), gl2⟩) :
    wRqD1 Γ Q [kRqD0 [1,1,1,1,1,1,1,1,0,1,0,0,1,0,0,1,1,0,1,0,1,1,1,0], .blk 2, kRqD0 [1,1,1,1,1,1,1,1,0,1,0,0,1,0,0,1,1,1], .blk 1, kRqD0 [1,1,1,1,1,1,1,1,0,1,0,0,1,1], kRqD0 [1,1,1,1,1,1,1,1,0,1,0], .blk 0, kRqD0 [1,1,1,1,1,1,1,1,1]] ⟨frame 183 [(1, .ptr 4 b1 0), (4, u8 self), (5, int every), (6, int replay), (7, .ptr 3 br 0), (8, .ptr 0 b 0), (9, .ptr 5 bv 0), (10, int i), (11, .ptr 6 ba 0), (12, .ptr 7 bo 0)], obsM b br b1 bv ba bo x r r D D' [] nilS [] nilS v y (.v nilS) (.v nilS), gl⟩ := by
  let HH : Nat → Nat → Hint := fun | 23, 8 => .plainAt [0] (.call false (Dr × Glb) (fun a => Own a.1 r2 a.2 ∧ Step gl D' r a.2 a.1 r2) [3] true (fun _ => .tup [outT F E, .agg (stC z), bool ok]) (fun a => obsR br r2 a.1) (fun a => a.2)) | _, _ => .no
  exact run_sound ⟨HH, [((0, 24), ([1,4,5,6,7,8,9,10,11,12,13,14,15], 10))], plRqD0⟩ 400 (by kernel_rfl) (Yb ba (Yb ba (Yb ba (Ya (Ya (repC_plain r D') Yt) (Ya (hc (HH 23 8).P fun D2 gl2 h1 h2 => ⟨(D2, gl2), ⟨h1, h2⟩, rfl, rfl, Nat.le_of_ble_eq_true rfl, fun _ => rfl⟩) (fun (Z0 : Dr × Glb) => (fun (Z1 : Own Z0.fst r2 Z0.snd ∧ Step gl D' r Z0.snd Z0.fst r2) => (Ya (Ya (repC_plain r2 Z0.fst) Yt) (fun (Z2 : Nat) => (fun (Z3 : Nat) => (Yk 2 Z2 (Yk 3 Z3 (nx Z2 Z3 Z0.fst Z0.snd Z1.1 Z1.2)))))))))))))
theorem pl32 (Γ : Ctx) (b br b1 bv ba bo : Nat) (x : Ply) (self every replay : Nat) (i : Int) (v : VS) (y : Act) (r r2 : RS) (D D' : Dr) (F : List Fm) (E : List Ev) (gl : Glb) (Q : T → Obs → Glb → Prop) (hc : ∀ Q' : T → Obs → Glb → Prop, (∀ D2 gl2 hf he, Own D2 r2 gl2 → Step gl D r gl2 D2 r2 → Q' (.tup []) (obsU b r2 D2 F hf E he) gl2) → TCalls Try.prog 29 [.ptr 0 b 0, .agg (viewC v)] (obsU b r D [] nilS [] nilS) gl Q')
    (nx : ∀ D2 gl2 hf he, Own D2 r2 gl2 → Step gl D r gl2 D2 r2 → wRqD1 Γ Q [kRqD0 [1,1,1,1,1,1,1,1,0,1,0,0,1,0,0,1,1,1], .blk 1, kRqD0 [1,1,1,1,1,1,1,1,0,1,0,0,1,1], kRqD0 [1,1,1,1,1,1,1,1,0,1,0], .blk 0, kRqD0 [1,1,1,1,1,1,1,1,1]] ⟨frame 183 [(1, .ptr 4 b1 0), (4, u8 self), (5, int every), (6, int replay), (7, .ptr 3 br 0), (8, .ptr 0 b 0), (9, .ptr 5 bv 0), (10, int i), (12, .ptr 7 bo 0)], obsM b br b1 bv ba bo x r2 r2 D2 D' F hf E he v y (.sl 34 (Row.aggs frC F)) (.sl 5 (Row.aggs evC E)), gl2⟩) :
    wRqD1 Γ Q [kRqD0 [1,1,1,1,1,1,1,1,0,1,0,0,1,0,0,1,1,0,1,0,1,1,1,1,1,0,1,1], .blk 2, kRqD0 [1,1,1,1,1,1,1,1,0,1,0,0,1,0,0,1,1,1], .blk 1, kRqD0 [1,1,1,1,1,1,1,1,0,1,0,0,1,1], kRqD0 [1,1,1,1,1,1,1,1,0,1,0], .blk 0, kRqD0 [1,1,1,1,1,1,1,1,1]] ⟨frame 183 [(1, .ptr 4 b1 0), (4, u8 self), (5, int every), (6, int replay), (7, .ptr 3 br 0), (8, .ptr 0 b 0), (9, .ptr 5 bv 0), (10, int i), (12, .ptr 7 bo 0)], obsM b br b1 bv ba bo x r r2 D D' [] nilS [] nilS v y (.sl 34 (Row.aggs frC F)) (.sl 5 (Row.aggs evC E)), gl⟩ := by
  let HH : Nat → Nat → Hint := fun | 32, 2 => (.call false (Dr × Glb × Value × Value) (fun a => Own a.1 r2 a.2.1 ∧ Step gl D r a.2.1 a.1 r2) [0,1,2] true (fun _ => .tup []) (fun a => obsU b r2 a.1 F a.2.2.1 E a.2.2.2) (fun a => a.2.1)) | _, _ => .no
  exact run_sound ⟨HH, [((0, 33), ([1,4,5,6,7,8,9,10,12], 8))], plRqD0⟩ 400 (by kernel_rfl) (Yb bv (Ya (hc (HH 32 2).P fun D2 gl2 hf he h1 h2 => ⟨(D2, gl2, hf, he), ⟨h1, h2⟩, rfl, rfl, Nat.le_of_ble_eq_true rfl, fun _ => rfl⟩) (fun (Z0 : Dr × Glb × Value × Value) => (fun (Z1 : Own Z0.fst r2 Z0.snd.fst ∧ Step gl D r Z0.snd.fst Z0.fst r2) => (nx Z0.fst Z0.snd.fst Z0.snd.snd.fst Z0.snd.snd.snd Z1.1 Z1.2)))))
theorem pl31 (Γ : Ctx) (b br b1 bv ba bo : Nat) (x : Ply) (self every replay : Nat) (i : Int) (v : VS) (y : Act) (r r2 : RS) (D D' : Dr) (F : List Fm) (E : List Ev) (gl : Glb) (Q : T → Obs → Glb → Prop) (hc : ∀ Q' : T → Obs → Glb → Prop, (∀ D2 gl2, Own D2 r2 gl2 → Step gl D' r gl2 D2 r2 → Q' (outT F E) (obsR br r2 D2) gl2) → TCalls Try.prog 10 [.ptr 0 br 0, .agg (viewC v)] (obsR br r D') gl Q')
    (nx : ∀ D2 gl2, Own D2 r2 gl2 → Step gl D' r gl2 D2 r2 → wRqD1 Γ Q [kRqD0 [1,1,1,1,1,1,1,1,0,1,0,0,1,0,0,1,1,0,1,0,1,1,1,1,1,0,1,1], .blk 2, kRqD0 [1,1,1,1,1,1,1,1,0,1,0,0,1,0,0,1,1,1], .blk 1, kRqD0 [1,1,1,1,1,1,1,1,0,1,0,0,1,1], kRqD0 [1,1,1,1,1,1,1,1,0,1,0], .blk 0, kRqD0 [1,1,1,1,1,1,1,1,1]] ⟨frame 183 [(1, .ptr 4 b1 0), (4, u8 self), (5, int every), (6, int replay), (7, .ptr 3 br 0), (8, .ptr 0 b 0), (9, .ptr 5 bv 0), (10, int i), (12, .ptr 7 bo 0)], obsM b br b1 bv ba bo x r r2 D D2 [] nilS [] nilS v y (.sl 34 (Row.aggs frC F)) (.sl 5 (Row.aggs evC E)), gl2⟩) :
    wRqD1 Γ Q [kRqD0 [1,1,1,1,1,1,1,1,0,1,0,0,1,0,0,1,1,0,1,0,1,1,1,1,1,0,1], .blk 2, kRqD0 [1,1,1,1,1,1,1,1,0,1,0,0,1,0,0,1,1,1], .blk 1, kRqD0 [1,1,1,1,1,1,1,1,0,1,0,0,1,1], kRqD0 [1,1,1,1,1,1,1,1,0,1,0], .blk 0, kRqD0 [1,1,1,1,1,1,1,1,1]] ⟨frame 183 [(1, .ptr 4 b1 0), (4, u8 self), (5, int every), (6, int replay), (7, .ptr 3 br 0), (8, .ptr 0 b 0), (9, .ptr 5 bv 0), (10, int i), (12, .ptr 7 bo 0)], obsM b br b1 bv ba bo x r r D D' [] nilS [] nilS v y (.v nilS) (.v nilS), gl⟩ := by
  let HH : Nat → Nat → Hint := fun | 31, 2 => .plainAt [0] (.call false (Dr × Glb) (fun a => Own a.1 r2 a.2 ∧ Step gl D' r a.2 a.1 r2) [3] true (fun _ => outT F E) (fun a => obsR br r2 a.1) (fun a => a.2)) | _, _ => .no
  exact run_sound ⟨HH, [((0, 32), ([1,4,5,6,7,8,9,10,12], 8))], plRqD0⟩ 400 (by kernel_rfl) (Yb bv (Ya (Ya (repC_plain r D') Yt) (Ya (hc (HH 31 2).P fun D2 gl2 h1 h2 => ⟨(D2, gl2), ⟨h1, h2⟩, rfl, rfl, Nat.le_of_ble_eq_true rfl, fun _ => rfl⟩) (fun (Z0 : Dr × Glb) => (fun (Z1 : Own Z0.fst r2 Z0.snd ∧ Step gl D' r Z0.snd Z0.fst r2) => (Ya (Ya (repC_plain r2 Z0.fst) Yt) (Yk 2 bo (nx Z0.fst Z0.snd Z1.1 Z1.2))))))))
theorem pl29 (Γ : Ctx) (b br b1 bv ba bo : Nat) (x : Ply) (self every replay : Nat) (i : Int) (v : VS) (y : Act) (r : RS) (D D' : Dr) (gl : Glb) (Q : T → Obs → Glb → Prop) (hw : View.WF v)
    (nx : ∀ v', v' = v ∨ v' = (View.applyV v (1 + y.kind % 2) (1 + y.frm % 6) (1 + y.l % 3) 0).1 → wRqD1 Γ Q [kRqD0 [1,1,1,1,1,1,1,1,0,1,0,0,1,0,0,1,1,0,1,0,1,1,1,1,1,0,1], .blk 2, kRqD0 [1,1,1,1,1,1,1,1,0,1,0,0,1,0,0,1,1,1], .blk 1, kRqD0 [1,1,1,1,1,1,1,1,0,1,0,0,1,1], kRqD0 [1,1,1,1,1,1,1,1,0,1,0], .blk 0, kRqD0 [1,1,1,1,1,1,1,1,1]] ⟨frame 183 [(1, .ptr 4 b1 0), (4, u8 self), (5, int every), (6, int replay), (7, .ptr 3 br 0), (8, .ptr 0 b 0), (9, .ptr 5 bv 0), (10, int i), (12, .ptr 7 bo 0)], obsM b br b1 bv ba bo x r r D D' [] nilS [] nilS v' y (.v nilS) (.v nilS), gl⟩) :
    wRqD1 Γ Q [kRqD0 [1,1,1,1,1,1,1,1,0,1,0,0,1,0,0,1,1,0,1,0,1,1,1,1,1,0], .blk 2, kRqD0 [1,1,1,1,1,1,1,1,0,1,0,0,1,0,0,1,1,1], .blk 1, kRqD0 [1,1,1,1,1,1,1,1,0,1,0,0,1,1], kRqD0 [1,1,1,1,1,1,1,1,0,1,0], .blk 0, kRqD0 [1,1,1,1,1,1,1,1,1]] ⟨frame 183 [(1, .ptr 4 b1 0), (4, u8 self), (5, int every), (6, int replay), (7, .ptr 3 br 0), (8, .ptr 0 b 0), (9, .ptr 5 bv 0), (10, int i), (11, .ptr 6 ba 0), (12, .ptr 7 bo 0)], obsM b br b1 bv ba bo x r r D D' [] nilS [] nilS v y (.v nilS) (.v nilS), gl⟩ := by
  have e1 : IntKind.wrap .u8 (1 + Int.tmod (y.kind : Int) 2) = ((1 + y.kind % 2 : Nat) : Int) := by
    rw [show Int.tmod (y.kind : Int) 2 = ((y.kind % 2 : Nat) : Int) from IntWalk.up_tmod rfl rfl, IntWalk.u8_in _ (by omega)]; omega
  have e2 : IntKind.wrap .u8 (1 + Int.tmod (y.frm : Int) 6) = ((1 + y.frm % 6 : Nat) : Int) := by
    rw [show Int.tmod (y.frm : Int) 6 = ((y.frm % 6 : Nat) : Int) from IntWalk.up_tmod rfl rfl, IntWalk.u8_in _ (by omega)]; omega
  have e3 : IntKind.wrap .u8 (1 + Int.tmod (y.l : Int) 3) = ((1 + y.l % 3 : Nat) : Int) := by
    rw [show Int.tmod (y.l : Int) 3 = ((y.l % 3 : Nat) : Int) from IntWalk.up_tmod rfl rfl, IntWalk.u8_in _ (by omega)]; omega
  have ap := X5.apply_any v ⟨hw.e0, hw.e1⟩ (by have := hw.len; show v.ms.length ≤ 1000000; omega) (1 + y.kind % 2) (1 + y.frm % 6) (1 + y.l % 3) 0 0
  have n0 := nx _ (.inl rfl)
  have n1 := nx _ (.inr rfl)
  clear nx
  generalize View.applyV v (1 + y.kind % 2) (1 + y.frm % 6) (1 + y.l % 3) 0 = p at *
  obtain ⟨v', ok⟩ := p
  let HH : Nat → Nat → Hint := fun | 30, 14 => told (X5.vwR (v', ok)) [] [] | _, _ => .no
  exact run_sound ⟨HH, [((0, 31), ([1,4,5,6,7,8,9,10,12], 8))], plRqD0⟩ 400 (by kernel_rfl) (Ys (decide (i > (0 : Int))) (fun Z0 => (Yb ba (Ys (y.flag) (fun Z1 => (Yb bv (Yb ba (Yb ba (Yb ba (Ya (show TCalls Try.prog 24 [T.agg (viewC v), T.agg [u8 (IntKind.wrap IntKind.u8 ((1 : Int) + Int.tmod (↑y.kind : Int) (2 : Int))), u8 (IntKind.wrap IntKind.u8 ((1 : Int) + Int.tmod (↑y.frm : Int) (6 : Int))), u8 (IntKind.wrap IntKind.u8 ((1 : Int) + Int.tmod (↑y.l : Int) (3 : Int))), u32 (0 : Int), u32 (0 : Int)]] [] none_ (callPost (told (X5.vwR (v', ok)) [] [])) by simp only [e1, e2, e3] at *; exact ap _ fun _ h => told_post h) (Yu (Yk 10 bv n1)))))))) (fun Z2 => n0)))) (fun Z3 => n0))
theorem pl17 (Γ : Ctx) (b br b1 bv ba bo : Nat) (x : Ply) (self every replay : Nat) (i : Int) (v : VS) (y : Act) (r r2 : RS) (D D' : Dr) (F : List Fm) (E : List Ev) (gl : Glb) (ep : Nat) (hep : ep ≤ 4294967295) (hv : v.e = (ep : Int)) (Q : T → Obs → Glb → Prop) (hc : ∀ Q' : T → Obs → Glb → Prop, (∀ D2 gl2 hf he, Own D2 r2 gl2 → Step gl D r gl2 D2 r2 → Q' (.tup []) (obsU b r2 D2 F hf E he) gl2) → TCalls Try.prog 30 [.ptr 0 b 0, .agg (frC (frameOf y self ep)), bool y.lease] (obsU b r D [] nilS [] nilS) gl Q')
    (nx : ∀ D2 gl2 hf he, Own D2 r2 gl2 → Step gl D r gl2 D2 r2 → wRqD1 Γ Q [kRqD0 [1,1,1,1,1,1,1,1,0,1,0,0,1,0,0,1,1,1], .blk 1, kRqD0 [1,1,1,1,1,1,1,1,0,1,0,0,1,1], kRqD0 [1,1,1,1,1,1,1,1,0,1,0], .blk 0, kRqD0 [1,1,1,1,1,1,1,1,1]] ⟨frame 183 [(1, .ptr 4 b1 0), (4, u8 self), (5, int every), (6, int replay), (7, .ptr 3 br 0), (8, .ptr 0 b 0), (9, .ptr 5 bv 0), (10, int i), (12, .ptr 7 bo 0)], obsM b br b1 bv ba bo x r2 r2 D2 D' F hf E he v y (.sl 34 (Row.aggs frC F)) (.sl 5 (Row.aggs evC E)), gl2⟩) :
    wRqD1 Γ Q [kRqD0 [1,1,1,1,1,1,1,1,0,1,0,0,1,0,0,1,1,0,1,0,1,1,1,1,1,1,1], .blk 2, kRqD0 [1,1,1,1,1,1,1,1,0,1,0,0,1,0,0,1,1,1], .blk 1, kRqD0 [1,1,1,1,1,1,1,1,0,1,0,0,1,1], kRqD0 [1,1,1,1,1,1,1,1,0,1,0], .blk 0, kRqD0 [1,1,1,1,1,1,1,1,1]] ⟨frame 183 [(1, .ptr 4 b1 0), (4, u8 self), (5, int every), (6, int replay), (7, .ptr 3 br 0), (8, .ptr 0 b 0), (9, .ptr 5 bv 0), (10, int i), (11, .ptr 6 ba 0), (12, .ptr 7 bo 0)], obsM b br b1 bv ba bo x r r2 D D' [] nilS [] nilS v y (.sl 34 (Row.aggs frC F)) (.sl 5 (Row.aggs evC E)), gl⟩ := by
  have hfo := frameOf_any y self ep hep
  rw [← hv] at hfo
  let HH : Nat → Nat → Hint := fun | 17, 5 => told (.agg (frC (frameOf y self ep))) [] [] | 17, 8 => (.call false (Dr × Glb × Value × Value) (fun a => Own a.1 r2 a.2.1 ∧ Step gl D r a.2.1 a.1 r2) [0,1,2] true (fun _ => .tup []) (fun a => obsU b r2 a.1 F a.2.2.1 E a.2.2.2) (fun a => a.2.1)) | _, _ => .no
  exact run_sound ⟨HH, [((0, 33), ([1,4,5,6,7,8,9,10,12], 8))], fun | 17 => some ⟨[5,6], [8], .take true [0,1,2,3,4,6,7] (.one 5 (.one 8 .done))⟩ | n => plRqD0 n⟩ 400 (by kernel_rfl) (Yb ba (Yb bv (Yb ba (Ya (hfo (HH 17 5).P (told_post rfl)) (Yu (Ya (hc (HH 17 8).P fun D2 gl2 hf he h1 h2 => ⟨(D2, gl2, hf, he), ⟨h1, h2⟩, rfl, rfl, Nat.le_of_ble_eq_true rfl, fun _ => rfl⟩) (fun (Z0 : Dr × Glb × Value × Value) => (fun (Z1 : Own Z0.fst r2 Z0.snd.fst ∧ Step gl D r Z0.snd.fst Z0.fst r2) => (nx Z0.fst Z0.snd.fst Z0.snd.snd.fst Z0.snd.snd.snd Z1.1 Z1.2)))))))))
theorem pl16 (Γ : Ctx) (b br b1 bv ba bo : Nat) (x : Ply) (self every replay : Nat) (i : Int) (v : VS) (y : Act) (r r2 : RS) (D D' : Dr) (F : List Fm) (E : List Ev) (gl : Glb) (ep : Nat) (hep : ep ≤ 4294967295) (hv : v.e = (ep : Int)) (Q : T → Obs → Glb → Prop) (hc : ∀ Q' : T → Obs → Glb → Prop, (∀ D2 gl2, Own D2 r2 gl2 → Step gl D' r gl2 D2 r2 → Q' (outT F E) (obsR br r2 D2) gl2) → TCalls Try.prog 15 [.ptr 0 br 0, .agg (frC (frameOf y self ep)), bool y.lease] (obsR br r D') gl Q')
    (nx : ∀ D2 gl2, Own D2 r2 gl2 → Step gl D' r gl2 D2 r2 → wRqD1 Γ Q [kRqD0 [1,1,1,1,1,1,1,1,0,1,0,0,1,0,0,1,1,0,1,0,1,1,1,1,1,1,1], .blk 2, kRqD0 [1,1,1,1,1,1,1,1,0,1,0,0,1,0,0,1,1,1], .blk 1, kRqD0 [1,1,1,1,1,1,1,1,0,1,0,0,1,1], kRqD0 [1,1,1,1,1,1,1,1,0,1,0], .blk 0, kRqD0 [1,1,1,1,1,1,1,1,1]] ⟨frame 183 [(1, .ptr 4 b1 0), (4, u8 self), (5, int every), (6, int replay), (7, .ptr 3 br 0), (8, .ptr 0 b 0), (9, .ptr 5 bv 0), (10, int i), (11, .ptr 6 ba 0), (12, .ptr 7 bo 0)], obsM b br b1 bv ba bo x r r2 D D2 [] nilS [] nilS v y (.sl 34 (Row.aggs frC F)) (.sl 5 (Row.aggs evC E)), gl2⟩) :
    wRqD1 Γ Q [kRqD0 [1,1,1,1,1,1,1,1,0,1,0,0,1,0,0,1,1,0,1,0,1,1,1,1,1,1], .blk 2, kRqD0 [1,1,1,1,1,1,1,1,0,1,0,0,1,0,0,1,1,1], .blk 1, kRqD0 [1,1,1,1,1,1,1,1,0,1,0,0,1,1], kRqD0 [1,1,1,1,1,1,1,1,0,1,0], .blk 0, kRqD0 [1,1,1,1,1,1,1,1,1]] ⟨frame 183 [(1, .ptr 4 b1 0), (4, u8 self), (5, int every), (6, int replay), (7, .ptr 3 br 0), (8, .ptr 0 b 0), (9, .ptr 5 bv 0), (10, int i), (11, .ptr 6 ba 0), (12, .ptr 7 bo 0)], obsM b br b1 bv ba bo x r r D D' [] nilS [] nilS v y (.v nilS) (.v nilS), gl⟩ := by
  have hfo := frameOf_any y self ep hep
  rw [← hv] at hfo
  let HH : Nat → Nat → Hint := fun | 16, 5 => told (.agg (frC (frameOf y self ep))) [] [] | 16, 8 => .plainAt [0] (.call false (Dr × Glb) (fun a => Own a.1 r2 a.2 ∧ Step gl D' r a.2 a.1 r2) [3] true (fun _ => outT F E) (fun a => obsR br r2 a.1) (fun a => a.2)) | _, _ => .no
  exact run_sound ⟨HH, [((0, 17), ([1,4,5,6,7,8,9,10,11,12], 8))], fun | 16 => some ⟨[5,6], [8,9], .take true [0,1,2,3,4,6,7] (.one 5 (.one 8 (.one 9 .done)))⟩ | n => plRqD0 n⟩ 400 (by kernel_rfl) (Yb ba (Yb bv (Yb ba (Ya (hfo (HH 16 5).P (told_post rfl)) (Yu (Ya (Ya (repC_plain r D') Yt) (Ya (hc (HH 16 8).P fun D2 gl2 h1 h2 => ⟨(D2, gl2), ⟨h1, h2⟩, rfl, rfl, Nat.le_of_ble_eq_true rfl, fun _ => rfl⟩) (fun (Z0 : Dr × Glb) => (fun (Z1 : Own Z0.fst r2 Z0.snd ∧ Step gl D' r Z0.snd Z0.fst r2) => (Ya (Ya (repC_plain r2 Z0.fst) Yt) (Yk 2 bo (nx Z0.fst Z0.snd Z1.1 Z1.2))))))))))))
theorem pl15 (Γ : Ctx) (b br b1 bv ba bo : Nat) (x : Ply) (self every replay : Nat) (i : Int) (v : VS) (y : Act) (r : RS) (D D' : Dr) (gl : Glb) (Q : T → Obs → Glb → Prop)
    (c19 : wRqD1 Γ Q [kRqD0 [1,1,1,1,1,1,1,1,0,1,0,0,1,0,0,1,1,0,1,0,1,0], .blk 2, kRqD0 [1,1,1,1,1,1,1,1,0,1,0,0,1,0,0,1,1,1], .blk 1, kRqD0 [1,1,1,1,1,1,1,1,0,1,0,0,1,1], kRqD0 [1,1,1,1,1,1,1,1,0,1,0], .blk 0, kRqD0 [1,1,1,1,1,1,1,1,1]] ⟨frame 183 [(1, .ptr 4 b1 0), (4, u8 self), (5, int every), (6, int replay), (7, .ptr 3 br 0), (8, .ptr 0 b 0), (9, .ptr 5 bv 0), (10, int i), (11, .ptr 6 ba 0), (12, .ptr 7 bo 0)], obsM b br b1 bv ba bo x r r D D' [] nilS [] nilS v y (.v nilS) (.v nilS), gl⟩)
    (c23 : wRqD1 Γ Q [kRqD0 [1,1,1,1,1,1,1,1,0,1,0,0,1,0,0,1,1,0,1,0,1,1,1,0], .blk 2, kRqD0 [1,1,1,1,1,1,1,1,0,1,0,0,1,0,0,1,1,1], .blk 1, kRqD0 [1,1,1,1,1,1,1,1,0,1,0,0,1,1], kRqD0 [1,1,1,1,1,1,1,1,0,1,0], .blk 0, kRqD0 [1,1,1,1,1,1,1,1,1]] ⟨frame 183 [(1, .ptr 4 b1 0), (4, u8 self), (5, int every), (6, int replay), (7, .ptr 3 br 0), (8, .ptr 0 b 0), (9, .ptr 5 bv 0), (10, int i), (11, .ptr 6 ba 0), (12, .ptr 7 bo 0)], obsM b br b1 bv ba bo x r r D D' [] nilS [] nilS v y (.v nilS) (.v nilS), gl⟩)
    (c29 : wRqD1 Γ Q [kRqD0 [1,1,1,1,1,1,1,1,0,1,0,0,1,0,0,1,1,0,1,0,1,1,1,1,1,0], .blk 2, kRqD0 [1,1,1,1,1,1,1,1,0,1,0,0,1,0,0,1,1,1], .blk 1, kRqD0 [1,1,1,1,1,1,1,1,0,1,0,0,1,1], kRqD0 [1,1,1,1,1,1,1,1,0,1,0], .blk 0, kRqD0 [1,1,1,1,1,1,1,1,1]] ⟨frame 183 [(1, .ptr 4 b1 0), (4, u8 self), (5, int every), (6, int replay), (7, .ptr 3 br 0), (8, .ptr 0 b 0), (9, .ptr 5 bv 0), (10, int i), (11, .ptr 6 ba 0), (12, .ptr 7 bo 0)], obsM b br b1 bv ba bo x r r D D' [] nilS [] nilS v y (.v nilS) (.v nilS), gl⟩)
    (c16 : wRqD1 Γ Q [kRqD0 [1,1,1,1,1,1,1,1,0,1,0,0,1,0,0,1,1,0,1,0,1,1,1,1,1,1], .blk 2, kRqD0 [1,1,1,1,1,1,1,1,0,1,0,0,1,0,0,1,1,1], .blk 1, kRqD0 [1,1,1,1,1,1,1,1,0,1,0,0,1,1], kRqD0 [1,1,1,1,1,1,1,1,0,1,0], .blk 0, kRqD0 [1,1,1,1,1,1,1,1,1]] ⟨frame 183 [(1, .ptr 4 b1 0), (4, u8 self), (5, int every), (6, int replay), (7, .ptr 3 br 0), (8, .ptr 0 b 0), (9, .ptr 5 bv 0), (10, int i), (11, .ptr 6 ba 0), (12, .ptr 7 bo 0)], obsM b br b1 bv ba bo x r r D D' [] nilS [] nilS v y (.v nilS) (.v nilS), gl⟩) :
    wRqD1 Γ Q [kRqD0 [1,1,1,1,1,1,1,1,0,1,0,0,1,0,0,1,1], .blk 1, kRqD0 [1,1,1,1,1,1,1,1,0,1,0,0,1,1], kRqD0 [1,1,1,1,1,1,1,1,0,1,0], .blk 0, kRqD0 [1,1,1,1,1,1,1,1,1]] ⟨frame 183 [(1, .ptr 4 b1 0), (4, u8 self), (5, int every), (6, int replay), (7, .ptr 3 br 0), (8, .ptr 0 b 0), (9, .ptr 5 bv 0), (10, int i), (11, .ptr 6 ba 0), (12, .ptr 7 bo 0)], obsM b br b1 bv ba bo x r r D D' [] nilS [] nilS v y (.v nilS) (.v nilS), gl⟩ := by
  let HH : Nat → Nat → Hint := fun  | _, _ => .no
  exact run_sound ⟨HH, [((0, 19), ([1,4,5,6,7,8,9,10,11,12], 8)), ((0, 23), ([1,4,5,6,7,8,9,10,11,12], 8)), ((0, 29), ([1,4,5,6,7,8,9,10,11,12], 8)), ((0, 16), ([1,4,5,6,7,8,9,10,11,12], 8))], plRqD0⟩ 400 (by kernel_rfl) (Yb ba (Ys (Int.tmod (↑y.what : Int) (10 : Int) == (0 : Int)) (fun Z0 => c19) (fun Z1 => (Ys (Int.tmod (↑y.what : Int) (10 : Int) == (1 : Int)) (fun Z2 => c23) (fun Z3 => (Ys (Int.tmod (↑y.what : Int) (10 : Int) == (2 : Int)) (fun Z4 => c23) (fun Z5 => (Ys (Int.tmod (↑y.what : Int) (10 : Int) == (3 : Int)) (fun Z6 => c29) (fun Z7 => c16)))))))))
end X20
end Go.Proofs.Ytafcbipmmjegcaa.Vm
namespace Go.Proofs.Ytafcbipmmjegcaa.Vm
open Go Go.RowKit
set_option maxRecDepth 100000
noncomputable abbrev kRqE0 (l : List Nat) : It := .code (sub (bd Try.f7) l)
noncomputable abbrev wRqE1 (Γ : Ctx) (Q : T → Obs → Glb → Prop) : List It → S → Prop := TWk Try.prog Γ (fin Try.prog Try.f7 [] Q)
def plRqE0 : Nat → Option RPlan := fun | 6 => some ⟨[], [7], .take true [0,1,2,4,5,6] (.one 3 (.one 7 (.take false [8,9] .done)))⟩ | 16 => some ⟨[], [8, 9], .take true [0,1,2,3,4,6,7] (.one 5 (.one 8 (.one 9 .done)))⟩ | 17 => some ⟨[], [8], .take true [0,1,2,3,4,6,7] (.one 5 (.one 8 .done))⟩ | _ => none
namespace X20
open Rep (Stp Wrd Cel Drv Plc RS Fm Ev setP setC)
open View (Mem VS)
open X5 (viewC lim mems)
theorem wr_form (o : Rep.Out) (s : Option Stp) : ∃ z ok, wrT o s = .tup [outT o.2.1 o.2.2, .agg (stC z), bool ok] ∧ twT s = .tup [.agg (stC z), bool ok] := by
  cases s with
  | none => exact ⟨⟨0, 0, 0⟩, false, rfl, rfl⟩
  | some s => exact ⟨s, true, rfl, rfl⟩
theorem apply_wf {v : VS} (h : View.WF v) (k n l : Nat) (e : Int) : View.WF (View.applyV v k n l e).1 := by
  have hs := View.step_apply v k n l e
  generalize View.applyV v k n l e = p at *
  exact h.step hs
theorem Two.end {m m' : Nat} {r r2 : RS} {v v' : VS} {D D' E E' : Dr} {gl g1 g2 : Glb} (h : Two m r v D D' gl) (h1 : Own E' r2 g1) (s1 : Step gl D' r g1 E' r2)
    (h2 : Own E r2 g2) (s2 : Step g1 D r g2 E r2) (hf : Fit m' r2) (hw : View.WF v') (hv : r2.v = r.v ∨ r2.v = v') : Two m' r2 v' E E' g2 :=
  h.next h1 s1 h2 s2 hf hw (by rcases hv with e | e <;> rw [e]; exact h.vl; exact hw.len)
theorem pl_act (Γ : Ctx) (b br b1 bv ba bo : Nat) (x : Ply) (self every replay : Nat) (i : Nat) (hi : i < 70) (v : VS) (y : Act) (hy : y.n ≤ 4294967295) (r : RS) (D D' : Dr) (gl : Glb) (h : Two (7 * i) r v D D' gl) (Q : T → Obs → Glb → Prop)
    (nx : ∀ r2 v2 D2 D2' gl2, Two (7 * (i + 1)) r2 v2 D2 D2' gl2 → wRqE1 Γ Q [kRqE0 [1,1,1,1,1,1,1,1,0,1,0], .blk 0, kRqE0 [1,1,1,1,1,1,1,1,1]] ⟨frame 183 [(1, .ptr 4 b1 0), (4, u8 self), (5, int every), (6, int replay), (7, .ptr 3 br 0), (8, .ptr 0 b 0), (9, .ptr 5 bv 0), (10, int (i + 1 : Nat))], obsL b br b1 bv x r2 r2 D2 D2' [] nilS [] nilS v2, gl2⟩) :
    wRqE1 Γ Q [kRqE0 [1,1,1,1,1,1,1,1,0,1,0,0,1,0,0,1,1], .blk 1, kRqE0 [1,1,1,1,1,1,1,1,0,1,0,0,1,1], kRqE0 [1,1,1,1,1,1,1,1,0,1,0], .blk 0, kRqE0 [1,1,1,1,1,1,1,1,1]] ⟨frame 183 [(1, .ptr 4 b1 0), (4, u8 self), (5, int every), (6, int replay), (7, .ptr 3 br 0), (8, .ptr 0 b 0), (9, .ptr 5 bv 0), (10, int (i : Nat)), (11, .ptr 6 ba 0), (12, .ptr 7 bo 0)], obsM b br b1 bv ba bo x r r D D' [] nilS [] nilS v y (.v nilS) (.v nilS), gl⟩ := by
  have hni : ((i + 1 : Nat) : Int) = (i : Int) + 1 := by omega
  rw [hni] at nx
  have go := fun (r2 : RS) (v2 : VS) (D2 D2' : Dr) (F : List Fm) (hf : Value) (E : List Ev) (he : Value) (gl2 : Glb) (h2 : Two (7 * (i + 1)) r2 v2 D2 D2' gl2) (hF : F.length ≤ 1000000) (hE : E.length ≤ 1000000) =>
    pl33 Γ b br b1 bv ba bo x self every replay (i : Int) v2 y r2 D2 D2' F hf E he gl2 h2.own h2.own' h2.lim hF hE (by omega) (by omega) Q (nx r2 v2 D2 D2' gl2 h2)
  clear nx
  have f0 := h.fit
  have w0 := h.wf
  have o5 := h.oth
  refine pl15 Γ b br b1 bv ba bo x self every replay (i : Int) v y r D D' gl Q ?_ ?_ ?_ ?_
  · obtain ⟨l1, l2⟩ := tick_len r every replay y.lease o5
    have f2 := f0.tick every replay y.lease
    have ev := tick_v r every replay y.lease
    have c1 := fun Q' => tick_any br every replay y.lease Q' r D' gl h.own' h.lim o5 (f0.bd (by omega)) (Nat.le_trans f0.ca (by omega))
    have c2 := fun (g1 : Glb) (ho : Own D r g1) Q' => ttick_any b every replay y.lease r D [] nilS [] nilS g1 ho h.lim o5 (Nat.zero_le _) (Nat.zero_le _) (f0.bd (by omega)) (Nat.le_trans f0.ca (by omega)) Q'
    generalize Rep.tick r every replay y.lease = o at *
    obtain ⟨r2, F, E⟩ := o
    exact pl19 Γ b br b1 bv ba bo x self every replay (i : Int) v y r r2 D D' F E gl Q c1 fun D2' g1 h1 s1 =>
      pl20 Γ b br b1 bv ba bo x self every replay (i : Int) v y r r2 D D2' F E g1 Q (fun Q' hq => c2 g1 (h.mid s1) Q' fun D2 g2 hf he a1 a2 => hq D2 g2 hf he a1 a2) fun D2 g2 hf he h2 s2 =>
        go r2 v D2 D2' F hf E he g2 (h.end h1 s1 h2 s2 (f2.mono (by omega)) w0 (.inl ev)) (by dsimp only at l1; omega) (by dsimp only at l2; omega)
  · obtain ⟨l1, l2⟩ := write_len r y.key true y.t y.rmw o5
    have f2 := f0.write y.key true y.t y.rmw
    have ev := write_v r y.key true y.t y.rmw
    have c1 := fun Q' => write_any br r D' y.key true y.t y.rmw gl h.own' h.lim o5 (fun _ => f0.st y.key) Q'
    have c2 := fun (g1 : Glb) (ho : Own D r g1) Q' => twrite_any b r D [] nilS [] nilS y.key true y.t y.rmw g1 ho h.lim (by simp only [List.length_nil]; omega) (by simp) (fun _ => f0.st y.key) Q'
    generalize Rep.write r y.key true y.t y.rmw = o at *
    obtain ⟨⟨r2, F, E⟩, so⟩ := o
    obtain ⟨z, ok, e1, e2⟩ := wr_form (r2, F, E) so
    rw [e1] at c1
    rw [e2] at c2
    exact pl23 Γ b br b1 bv ba bo x self every replay (i : Int) v y r r2 D D' F E gl z ok Q c1 fun bw bs D2' g1 h1 s1 =>
      pl24 Γ b br b1 bv ba bo x self every replay (i : Int) v y r r2 D D2' F E g1 bw bs z ok Q (fun Q' hq => c2 g1 (h.mid s1) Q' fun D2 g2 hf he a1 a2 => hq D2 g2 hf he a1 a2) fun D2 g2 hf he h2 s2 =>
        go r2 v D2 D2' F hf E he g2 (h.end h1 s1 h2 s2 (f2.mono (by omega)) w0 (.inl ev)) (by dsimp only at l1; omega) (by dsimp only at l2; omega)
  · refine pl29 Γ b br b1 bv ba bo x self every replay (i : Int) v y r D D' gl Q w0 fun v' hv' => ?_
    have w2 : View.WF v' := by
      rcases hv' with e | e
      · rw [e]; exact w0
      · rw [e]; exact apply_wf w0 _ _ _ _
    have hl2 : lim v'.ms := Nat.le_trans w2.len (by decide)
    have l1 := enter_len r v'
    have f2 := f0.enter v'
    have ev := enter_v r v'
    have c1 := fun Q' => enter_any br r D' v' gl h.own' hl2 Q'
    have c2 := fun (g1 : Glb) (ho : Own D r g1) Q' => tenter_any b r D [] nilS [] nilS v' g1 ho hl2 (Nat.zero_le _) Q'
    generalize Rep.enter r v' = o at *
    obtain ⟨r2, F⟩ := o
    exact pl31 Γ b br b1 bv ba bo x self every replay (i : Int) v' y r r2 D D' F [] gl Q c1 fun D2' g1 h1 s1 =>
      pl32 Γ b br b1 bv ba bo x self every replay (i : Int) v' y r r2 D D2' F [] g1 Q (fun Q' hq => c2 g1 (h.mid s1) Q' fun D2 g2 hf a1 a2 => hq D2 g2 hf nilS a1 a2) fun D2 g2 hf he h2 s2 =>
        go r2 v' D2 D2' F hf [] he g2 (h.end h1 s1 h2 s2 (f2.mono (by omega)) w2 (.inr ev)) (by dsimp only at l1; omega) (Nat.zero_le _)
  · have hv : v.e = ((v.e.toNat : Nat) : Int) := by have := w0.e0; omega
    have hep : v.e.toNat ≤ 4294967295 := by have := w0.e1; omega
    obtain ⟨l1, l2⟩ := on_len r (frameOf y self v.e.toNat) y.lease o5
    have f2 := f0.on (frameOf y self v.e.toNat) y.lease hy
    have ev := on_v r (frameOf y self v.e.toNat) y.lease
    have c1 := fun Q' => on_any br r D' (frameOf y self v.e.toNat) y.lease gl h.own' h.lim o5 Q'
    have c2 := fun (g1 : Glb) (ho : Own D r g1) Q' => ton_any b r D [] nilS [] nilS (frameOf y self v.e.toNat) y.lease g1 ho h.lim (by simp only [List.length_nil]; omega) (by simp) Q'
    generalize v.e.toNat = ep at *
    generalize Rep.on r (frameOf y self ep) y.lease = o at *
    obtain ⟨r2, F, E⟩ := o
    exact pl16 Γ b br b1 bv ba bo x self every replay (i : Int) v y r r2 D D' F E gl ep hep hv Q (fun Q' hq => c1 Q' fun gl2 a1 a2 => hq D' gl2 a1 a2) fun D2' g1 h1 s1 =>
      pl17 Γ b br b1 bv ba bo x self every replay (i : Int) v y r r2 D D2' F E g1 ep hep hv Q (fun Q' hq => c2 g1 (h.mid s1) Q' fun g2 hf he a1 a2 => hq D g2 hf he a1 a2) fun D2 g2 hf he h2 s2 =>
        go r2 v D2 D2' F hf E he g2 (h.end h1 s1 h2 s2 (f2.mono (by omega)) w0 (.inl ev)) (by dsimp only at l1; omega) (by dsimp only at l2; omega)
theorem pl_loop (Γ : Ctx) (b br b1 bv : Nat) (x : Ply) (self every replay : Nat) (hx : ∀ a ∈ x.A, a.n ≤ 4294967295) (Q : T → Obs → Glb → Prop) (hQ : ∀ gl, Q (bool true) [] gl) : ∀ (n i : Nat) (r : RS) (v : VS) (D D' : Dr) (gl : Glb), i + n = 70 → Two (7 * i) r v D D' gl →
    wRqE1 Γ Q [kRqE0 [1,1,1,1,1,1,1,1,0,1,0], .blk 0, kRqE0 [1,1,1,1,1,1,1,1,1]] ⟨frame 183 [(1, .ptr 4 b1 0), (4, u8 self), (5, int every), (6, int replay), (7, .ptr 3 br 0), (8, .ptr 0 b 0), (9, .ptr 5 bv 0), (10, int (i : Nat))], obsL b br b1 bv x r r D D' [] nilS [] nilS v, gl⟩ := by
  intro n
  induction n with
  | zero =>
    intro i r v D D' gl hi h
    have hi : i = 70 := by omega
    subst hi
    have hQ := hQ gl
    clear h hx
    let HH : Nat → Nat → Hint := fun  | _, _ => .no
    exact run_sound ⟨HH, [((0, 13), ([1,4,5,6,7,8,9,10], 1))], plRqE0⟩ 400 (by kernel_rfl) (Yb b1 (Ys (decide ((↑(70 : Nat) : Int) < (↑(List.length (List.map (fun x => T.agg (acC x)) x.A)) : Int))) (fun Z0 => hQ) (fun Z1 => hQ)))
  | succ n ih =>
    intro i r v D D' gl hi h
    have hl : (Row.aggs acC x.A).length = x.A.length := Row.aggs_len (C := acC) x.A
    by_cases hle : i < x.A.length
    · obtain ⟨y, hy⟩ : ∃ y, x.A[i]? = some y := ⟨_, List.getElem?_eq_getElem hle⟩
      have hx' := hx y (List.mem_of_getElem? hy)
      have e1 : (Row.aggs acC x.A)[((i : Nat) : Int).toNat]? = some (.agg (acC y)) := Row.aggs_at (by rw [Int.toNat_natCast]; exact hy)
      have lp := fun ba bo => pl_act Γ b br b1 bv ba bo x self every replay i (by omega) v y hx' r D D' gl h Q fun r2 v2 D2 D2' gl2 h2 => ih (i + 1) r2 v2 D2 D2' gl2 (by omega) h2
      clear ih hQ h hx
      let HH : Nat → Nat → Hint := fun | 13, 3 => .res (.agg (acC y)) | _, _ => .no
      let z0 := S.mk (frame 183 []) [(b, Ob.cells (repU r D [] nilS [] nilS))] gl
      let z1 := [kRqE0 [1,1,1,1,1,1,1,1,1]]
      exact run_sound ⟨HH, [((0, 15), ([1,4,5,6,7,8,9,10,11,12], 8)), ((0, 35), ([], 1))], plRqE0⟩ 400 (by kernel_rfl) (Yb b1 (Ys (decide ((↑i : Int) < (↑(List.length (List.map (fun x => T.agg (acC x)) x.A)) : Int))) (fun Z0 => (Ys (decide ((↑i : Int) < (70 : Int))) (fun Z1 => (Yb b1 (Ya (show (0 : Int) ≤ (↑i : Int) by omega) (Ya e1 (fun (Z2 : Nat) => (Yk 13 Z2 (fun (Z3 : Nat) => (lp Z2 Z3)))))))) (fun Z4 => (show wRqE1 Γ Q z1 z0 by exfalso; have := of_decide_eq_false Z4; omega)))) (fun Z5 => (show wRqE1 Γ Q z1 z0 by exfalso; have := of_decide_eq_false Z5; simp only [List.length_map] at this; omega))))
    · have hQ := hQ gl
      clear ih h hx
      let HH : Nat → Nat → Hint := fun  | _, _ => .no
      exact run_sound ⟨HH, [((0, 13), ([1,4,5,6,7,8,9,10], 1))], plRqE0⟩ 400 (by kernel_rfl) (Yb b1 (Ys (decide ((↑i : Int) < (↑(List.length (List.map (fun x => T.agg (acC x)) x.A)) : Int))) (fun Z0 => (Ys (decide ((↑i : Int) < (70 : Int))) (fun Z1 => (show wRqE1 Γ Q [kRqE0 [1,1,1,1,1,1,1,1,0,1,0,0,1,0,0], It.blk 1, kRqE0 [1,1,1,1,1,1,1,1,0,1,0,0,1,1], kRqE0 [1,1,1,1,1,1,1,1,0,1,0], It.blk 0, kRqE0 [1,1,1,1,1,1,1,1,1]] (S.mk (frame 183 [(1, T.ptr 4 b1 0), (4, u8 self), (5, int every), (6, int replay), (7, T.ptr 3 br 0), (8, T.ptr 0 b 0), (9, T.ptr 5 bv 0), (10, int i)]) [(b, Ob.cells (repU r D [] nilS [] nilS))] gl) by exfalso; have := of_decide_eq_true Z0; simp only [List.length_map] at this; omega)) (fun Z2 => hQ))) (fun Z3 => hQ)))
end X20
end Go.Proofs.Ytafcbipmmjegcaa.Vm
