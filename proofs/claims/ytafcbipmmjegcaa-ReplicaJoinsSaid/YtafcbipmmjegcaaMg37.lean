/- Texts of this claim: RiK, RiL. -/
import Derived.Test.YtafcbipmmjegcaaMg15
import Derived.Test.YtafcbipmmjegcaaMg36
namespace Go.Proofs.Ytafcbipmmjegcaa.Vm
open Go Go.RowKit
set_option maxRecDepth 100000
noncomputable abbrev kRiK0 (l : List Nat) : It := .code (sub (bd Try.f22) l)
noncomputable abbrev wRiK1 (Γ : Ctx) (Q : T → Obs → Glb → Prop) : List It → S → Prop := TWk Try.prog Γ (fin Try.prog Try.f22 [0, 1, 2, 3] Q)
def plRiK0 : Nat → Option RPlan := fun | 7 => some ⟨[], [8, 9], .take true [0,1,2,3,4,5] (.one 6 (.take true [7] (.one 8 (.one 9 .done))))⟩ | _ => none
namespace X20
open Rep (Stp Wrd Cel Drv Plc RS Fm Ev put)
def obsCm (bw ba : Nat) (U W : List T) (hu hw : Value) : Obs := [(bw, .cells [.slx 34 2 W hw]), (ba, .cells [.slx 1 3 U hu]), (0, .room 34 70 W.length hw), (0, .room 1 25 U.length hu)]
theorem slxR {k i j : Nat} {es : List T} {x : Value} (M : Pm) (v : Value) (h : Rel M (.slx k i es x) v) : Rel M (.slx k j es x) v := by simp only [Rel] at h ⊢; exact h
section
variable (Γ : Ctx) (bw ba : Nat) (U : List T) (most i : Nat) (W : List T) (hu hw : Value) (gl : Glb) (Q : T → Obs → Glb → Prop)
theorem cmEnd (h : most ≤ i ∨ W.length = 0) (nx : Q (.tup []) (obsCm bw ba U W hu hw) gl) : wRiK1 Γ Q [kRiK0 [1,0], .blk 0] ⟨frame 42 [(0, int (most : Nat)), (1, .ptr 0 bw 0), (2, .ptr 1 ba 0), (4, int (i : Nat))], obsCm bw ba U W hu hw, gl⟩ := by
 let HH : Nat → Nat → Hint := fun  | _, _ => .no
 exact run_sound ⟨HH, [((0, 3), ([0,1,2,4], 4))], plRiK0⟩ 400 (by kernel_rfl) (Ys (decide ((↑i : Int) < (↑most : Int))) (fun Z0 => (Yb bw (Ys (decide ((↑(List.length W) : Int) > (0 : Int))) (fun Z1 => (show wRiK1 Γ Q [kRiK0 [1,0,0,1,0,0], It.blk 1, kRiK0 [1,0,0,1,1], kRiK0 [1,0], It.blk 0] (S.mk (frame 42 [(0, int most), (1, T.ptr 0 bw 0), (2, T.ptr 1 ba 0), (4, int i)]) [(bw, Ob.cells [T.slx 34 2 W hw]), (ba, Ob.cells [T.slx 1 3 U hu]), (0, Ob.room 34 70 (List.length W) hw), (0, Ob.room 1 25 (List.length U) hu)] gl) by exfalso; have a1 := of_decide_eq_true Z0; have a2 := of_decide_eq_true Z1; omega)) (fun Z2 => nx)))) (fun Z3 => nx))
theorem imp_cm {ts : List T} (n0 bf : Nat) (hw2 : Value) (cs : List T) : Imp ts [(bw, .cells [.slx 34 5 W hw2]), (ba, .cells [.slx 1 3 U hu]), (0, .room 34 70 n0 hw), (0, .room 1 25 U.length hu), (bf, .cells cs), (0, .room 34 70 W.length hw2)] gl ts (obsCm bw ba U W hu hw2) gl :=
 (Imp.sel (ob' := [(bw, .cells [.slx 34 5 W hw2]), (ba, .cells [.slx 1 3 U hu]), (0, .room 34 70 W.length hw2), (0, .room 1 25 U.length hu)]) [0,1,5,3] (by decide) rfl).trans
  (Imp.ob (i := 0) (x := (bw, .cells [.slx 34 5 W hw2])) (y := (bw, .cells [.slx 34 2 W hw2])) rfl (fun M w ⟨C, t, h1, h2, h3⟩ => ⟨C, t, h1, by
   simp only [RelL] at h2 ⊢
   obtain ⟨u, us, e, q, e2⟩ := h2
   exact ⟨u, us, e, slxR _ _ q, e2⟩, h3⟩) fun _ h => h)
theorem cmOne (V : List T) (hi : i < most) (hm : most ≤ 1000000) (f : Fm) (hV : V = .agg (frC f) :: W) (hl : W.length ≤ 1000000) (j : Nat) (hj : j < U.length) (hU : U.length ≤ 100) (hf : f.to = 17 + j) (p : Nat) (hp : U[j]? = some (.gp p 0)) (F : List Fm) (E : List Ev) (Pn : Dr → Glb → Prop) (hF : F.length ≤ 1000000)
  (hc : ∀ Q' : T → Obs → Glb → Prop, (∀ D' gl', Pn D' gl' → Q' (outT F E) [] gl') → TCalls Try.prog 15 [.gp p 0, .agg (frC f), bool true] [] gl Q')
  (nx : ∀ D' gl' hw', Pn D' gl' → wRiK1 Γ Q [kRiK0 [1,0], .blk 0] ⟨frame 42 [(0, int (most : Nat)), (1, .ptr 0 bw 0), (2, .ptr 1 ba 0), (4, int (i + 1 : Nat))], obsCm bw ba U (W ++ Row.aggs frC F) hu hw', gl'⟩) :
  wRiK1 Γ Q [kRiK0 [1,0], .blk 0] ⟨frame 42 [(0, int (most : Nat)), (1, .ptr 0 bw 0), (2, .ptr 1 ba 0), (4, int (i : Nat))], obsCm bw ba U V hu hw, gl⟩ := by
 have hwi : T.v (.int .i64 (IntKind.wrap .i64 ((i : Int) + 1))) = int (i + 1 : Nat) := congrArg int (by rw [wrap_i64 (by omega) (by omega)]; omega)
 have hw2 : T.v (.int .i64 (IntKind.wrap .i64 (IntKind.wrap .i64 (f.to : Int) - 17))) = int (j : Nat) := congrArg int (by rw [wrap_i64 (x := (f.to : Int)) (by omega) (by omega), wrap_i64 (by omega) (by omega)]; omega)
 have e1 : U[((j : Nat) : Int).toNat]? = some (.gp p 0) := by rw [nI]; exact hp
 have e0 : V[(0 : Int).toNat]? = some (.agg (frC f)) := by rw [hV]; rfl
 have hV0 : V.length = W.length + 1 := by rw [hV]; rfl
 have hFl : (Row.aggs frC F).length ≤ 1000000 := by rw [Row.aggs_len]; exact hF
 unfold outT at hc
 generalize hAF : Row.aggs frC F = AF at *
 have nx : ∀ n0 bf D' gl' hw2, Pn D' gl' → wRiK1 Γ Q [kRiK0 [1,0], .blk 0] ⟨frame 42 [(0, int (most : Nat)), (1, .ptr 0 bw 0), (2, .ptr 1 ba 0), (4, int (i + 1 : Nat))], [(bw, .cells [.slx 34 5 (W ++ AF) hw2]), (ba, .cells [.slx 1 3 U hu]), (0, .room 34 70 n0 hw), (0, .room 1 25 U.length hu), (bf, .cells (frC f)), (0, .room 34 70 (W ++ AF).length hw2)], gl'⟩ := fun n0 bf D' gl' hw2 h =>
  TWk.imp (nx D' gl' hw2 h) (imp_cm bw ba U (W ++ AF) hu hw gl' n0 bf hw2 (frC f))
 obtain ⟨L, hL⟩ : ∃ L, L = (V.take ((V.length : Nat) : Int).toNat).drop (1 : Int).toNat := ⟨_, rfl⟩
 have he : W = L := by rw [hL, hV]; simp
 rw [he] at nx hl hV0
 have h34 : 0 < 34 := by decide
 have c0 : (0 + L.length) * 144 ≤ 140737488355328 := by omega
 have c1 : 0 + L.length ≤ maxLen := by simp only [maxLen]; omega
 have c2 : (L.length + AF.length) * 144 ≤ 140737488355328 := by omega
 have c3 : L.length + AF.length ≤ maxLen := by simp only [maxLen]; omega
 clear he hV hl
 subst hL
 let HH : Nat → Nat → Hint := fun | 3, 1 => .res (.agg (frC f)) | 2, 1 => .res (int (i + 1 : Nat)) | 5, 4 => .res (int (j : Nat)) | 7, 3 => .res (.gp p 0) | 7, 6 => .call false (Dr × Glb) (fun a => Pn a.1 a.2) [] true (fun _ => .agg [.sl 34 AF, .sl 5 (Row.aggs evC E)]) (fun _ => []) (fun a => a.2) | _, _ => .no
 let z0 := [(bw, Ob.cells [T.slx 34 2 V hw]), (ba, Ob.cells [T.slx 1 3 U hu]), (0, Ob.room 34 70 (List.length V) hw), (0, Ob.room 1 25 (List.length U) hu)]
 let z2 := List.take (Int.toNat (↑(List.length V) : Int)) V
 let z1 := List.drop (Int.toNat (IntKind.i64, (1 : Int)).snd) z2
 exact run_sound ⟨HH, [((2, 1), ([0,1,2,4], 6))], fun | 7 => some ⟨[0,1,4], [8,9], .take true [0,1,2,3,4,5] (.one 6 (.take true [7] (.one 8 (.one 9 .done))))⟩ | n => plRiK0 n⟩ 400 (by kernel_rfl) (Ys (decide ((↑i : Int) < (↑most : Int))) (fun Z0 => (Yb bw (Ys (decide ((↑(List.length V) : Int) > (0 : Int))) (fun Z1 => (Yb bw (Ya (show (0 : Int) ≤ (0 : Int) by omega) (Ya e0 (fun (Z2 : Nat) => (Yk 34 Z2 (Ya (show 0 < nat_lit 34 by omega) (fun (Z3 : Value) => (Yb bw (Ya (Ya (show (0 : Int) ≤ (IntKind.i64, (1 : Int)).snd by omega) (Ya (show (IntKind.i64, (1 : Int)).snd ≤ (↑(List.length V) : Int) by omega) (show (↑(List.length V) : Int) ≤ (↑(List.length V) : Int) by omega))) (Ya (Yb Z3 (Ye (0))) (Ya (Ya (show (0 + List.length (List.drop (Int.toNat (IntKind.i64, (1 : Int)).snd) (List.take (Int.toNat (↑(List.length V) : Int)) V))) * nat_lit 144 ≤ 140737488355328 by omega) (show 0 + List.length (List.drop (Int.toNat (IntKind.i64, (1 : Int)).snd) (List.take (Int.toNat (↑(List.length V) : Int)) V)) ≤ maxLen by omega)) (fun (Z4 : Value) => (Yk 1 bw (Yb Z2 (Ya hw2 (Yb ba (Ys (decide ((↑j : Int) < (↑(List.length U) : Int))) (fun Z5 => (Yb bw (Yb ba (Ya (show (0 : Int) ≤ (↑j : Int) by omega) (Ya e1 (Yb Z2 (Ya (hc (HH 7 6).P fun D' gl' h => ⟨(D', gl'), h, rfl, rfl, Nat.zero_le _, fun _ => rfl⟩) (fun (Z6 : Dr × Glb) => (fun (Z7 : Pn Z6.fst Z6.snd) => (Ya (Yb Z4 (Ye (List.length z1))) (Ya (Ya (show (List.length (List.drop (Int.toNat (IntKind.i64, (1 : Int)).snd) (List.take (Int.toNat (↑(List.length V) : Int)) V)) + List.length AF) * nat_lit 144 ≤ 140737488355328 by omega) (show List.length (List.drop (Int.toNat (IntKind.i64, (1 : Int)).snd) (List.take (Int.toNat (↑(List.length V) : Int)) V)) + List.length AF ≤ maxLen by omega)) (fun (Z8 : Value) => (Yk 1 bw (Ya hwi (nx (List.length V) Z2 Z6.fst Z6.snd Z8 Z7))))))))))))))) (fun Z9 => (Ya hwi (show wRiK1 Γ Q [kRiK0 [1,0], It.blk 0] (S.mk (frame 42 [(0, int most), (1, T.ptr 0 bw 0), (2, T.ptr 1 ba 0), (4, int (i + 1))]) [(bw, Ob.cells [T.slx 34 5 z1 Z4]), (ba, Ob.cells [T.slx 1 3 U hu]), (0, Ob.room 34 70 (List.length V) hw), (0, Ob.room 1 25 (List.length U) hu), (Z2, Ob.cells [u8 f.kind, u8 f.frm, u8 f.to, u32 f.epoch, u8 f.key, u32 f.w.s.n, u8 f.w.s.b, u8 f.w.s.l, bool f.w.h, T.v (Value.string f.w.t), bool f.w.r, bool f.flag, u8 f.dir, u8 (0 : Int), u32 (0 : Int), u32 (0 : Int), u8 (0 : Int), u32 (0 : Int), u8 (0 : Int), u8 (0 : Int), u8 (0 : Int), u32 (0 : Int), u32 (0 : Int), u32 (0 : Int), T.v (Value.slice none 0 0), u8 (0 : Int), u8 (0 : Int), u8 (0 : Int), u8 (0 : Int), u8 (0 : Int), u8 (0 : Int), u8 (0 : Int), u8 (0 : Int), T.v (Value.slice none 0 0)]), (0, Ob.room 34 70 (List.length ([] ++ List.drop (Int.toNat (IntKind.i64, (1 : Int)).snd) z2)) Z4)] gl) by exfalso; have a1 := of_decide_eq_false Z9; omega))))))))))))))))))))) (fun Z10 => (show Q (T.tup []) z0 gl by exfalso; have a1 := of_decide_eq_false Z10; omega))))) (fun Z11 => (show Q (T.tup []) z0 gl by exfalso; have a1 := of_decide_eq_false Z11; omega)))
theorem cm_loop (n N Mx w b m : Nat) (e : Int) (v : View.VS) (hw60 : w ≤ 60) (hb : b ≤ 900000) (hm : most ≤ 1000000) (B : Nat → Nat) (X : (Nat → RS) → List Fm → Prop)
  (hX : ∀ b R f W i, JW n N Mx e w b m v R (f :: W) → i < N → f.to = Rep.ad (i + 1) → X R (f :: W) → X (put R i (Rep.on (R i) f true).1) (W ++ (Rep.on (R i) f true).2.1))
  (hQ : ∀ R' DD' W' hw' gl', JW n N Mx e w b m v R' W' → X R' W' → (b ≤ most → W' = []) → Lot N B R' DD' gl' → Q (.tup []) (obsCm bw ba (gpsC B N) (Row.aggs frC W') hu hw') gl') :
  ∀ (z i : Nat) (R : Nat → RS) (DD : Nat → Dr) (W : List Fm) (hw : Value) (gl : Glb), i + z = most → JW n N Mx e w (b - i) m v R W → X R W → Lot N B R DD gl →
  wRiK1 Γ Q [kRiK0 [1,0], .blk 0] ⟨frame 42 [(0, int (most : Nat)), (1, .ptr 0 bw 0), (2, .ptr 1 ba 0), (4, int (i : Nat))], obsCm bw ba (gpsC B N) (Row.aggs frC W) hu hw, gl⟩ := by
 intro z
 induction z with
 | zero =>
  intro i R DD W hw gl hi law x lot
  refine cmEnd Γ bw ba (gpsC B N) most i (Row.aggs frC W) hu hw gl Q (.inl (by omega)) (hQ R DD W hw gl (law.mono (Nat.le_refl _) (Nat.sub_le _ _) (Nat.le_refl _)) x (fun hbm => ?_) lot)
  have := law.cj.len
  exact List.eq_nil_of_length_eq_zero (by omega)
 | succ z ih =>
  intro i R DD W hw gl hi law x lot
  cases W with
  | nil => exact cmEnd Γ bw ba (gpsC B N) most i (Row.aggs frC []) hu hw gl Q (.inr rfl) (hQ R DD [] hw gl (law.mono (Nat.le_refl _) (Nat.sub_le _ _) (Nat.le_refl _)) x (fun _ => rfl) lot)
  | cons f W =>
   obtain ⟨j, hj, ht, h17, hjv⟩ := law.cj.in_ (List.mem_cons_self ..)
   obtain ⟨hb1, law'⟩ := law.on hw60 hj ht
   have x' := hX _ _ _ _ _ law hj ht x
   have hlen := law.cj.len
   rw [List.length_cons] at hlen
   have hN := law.cj.m
   have hF := (on_len (R j) f true (law.oth hj)).1
   refine cmOne Γ bw ba (gpsC B N) most i (Row.aggs frC W) hu hw gl Q (Row.aggs frC (f :: W)) (by omega) hm f rfl (by rw [Row.aggs_len]; omega) j (by rw [gpsC_len]; exact hj) (by rw [gpsC_len]; omega) (by omega) (B j) (gpsC_at hj) (Rep.on (R j) f true).2.1 (Rep.on (R j) f true).2.2
    (fun D' gl' => Lot N B (put R j (Rep.on (R j) f true).1) (put DD j D') gl') (by omega) (fun Q' hq => lot_on lot hj f true (law.lim hj) (law.oth hj) Q' fun D' gl' h => hq D' gl' h) fun D' gl' hw' h => ?_
   rw [show Row.aggs frC W ++ Row.aggs frC (Rep.on (R j) f true).2.1 = Row.aggs frC (W ++ (Rep.on (R j) f true).2.1) from (List.map_append ..).symm]
   exact ih (i + 1) _ _ _ hw' gl' (by omega) (law'.mono (Nat.le_refl _) (by omega) (Nat.le_refl _)) x' h
end
theorem come_any (n N Mx w b m : Nat) (e : Int) (v : View.VS) (hw60 : w ≤ 60) (hb : b ≤ 900000) (most : Nat) (hm : most ≤ 1000000) (B : Nat → Nat) (X : (Nat → RS) → List Fm → Prop)
  (hX : ∀ b R f W i, JW n N Mx e w b m v R (f :: W) → i < N → f.to = Rep.ad (i + 1) → X R (f :: W) → X (put R i (Rep.on (R i) f true).1) (W ++ (Rep.on (R i) f true).2.1))
  (bw ba : Nat) (R : Nat → RS) (DD : Nat → Dr) (W : List Fm) (hu hw : Value) (gl : Glb) (law : JW n N Mx e w b m v R W) (x : X R W) (lot : Lot N B R DD gl) (Q : T → Obs → Glb → Prop)
  (hQ : ∀ R' DD' W' hw' gl', JW n N Mx e w b m v R' W' → X R' W' → (b ≤ most → W' = []) → Lot N B R' DD' gl' → Q (.tup []) (obsCm bw ba (gpsC B N) (Row.aggs frC W') hu hw') gl') :
  TCalls Try.prog 22 [int (most : Nat), .ptr 0 bw 0, .ptr 1 ba 0] (obsCm bw ba (gpsC B N) (Row.aggs frC W) hu hw) gl Q := by
 have lp := fun Γ => cm_loop Γ bw ba most hu Q n N Mx w b m e v hw60 hb hm B X hX hQ most 0 R DD W hw gl (Nat.zero_add _) law x lot
 clear hQ law lot x hX
 generalize Row.aggs frC W = V at *
 generalize gpsC B N = U at *
 refine TCalls.of Try.func22 rfl (CanCall.of Try.func22 rfl (by decide)) [0,1,2,3] fun Γ => ?_
 let HH : Nat → Nat → Hint := fun  | _, _ => .no
 exact run_sound ⟨HH, [((2, 1), ([0,1,2,4], 4))], plRiK0⟩ 400 (by kernel_rfl) (lp Γ)
end X20
end Go.Proofs.Ytafcbipmmjegcaa.Vm
namespace Go.Proofs.Ytafcbipmmjegcaa.Vm
open Go Go.RowKit
set_option maxRecDepth 100000
noncomputable abbrev kRiL0 (l : List Nat) : It := .code (sub (bd Try.f23) l)
noncomputable abbrev wRiL1 (Γ : Ctx) (Q : T → Obs → Glb → Prop) : List It → S → Prop := TWk Try.prog Γ (fin Try.prog Try.f23 [0, 1, 2, 3, 4, 5] Q)
def plRiL0 : Nat → Option RPlan := fun | 1 => some ⟨[], [23, 30, 31], .take true [0,1,2,3,4,5,6,7,8,9,10,11,12,13,14,15,16,17,18,19,20,21,22] (.three 23 28 29 (.take false [24,25,26,27] (.two 28 29 (.one 29 (.one 30 (.one 31 (.take false [32] .done)))) (.one 28 (.one 30 (.one 31 (.take false [32] .done)))))) (.two 23 29 (.take false [24,25,26,27] (.one 29 (.one 30 (.one 31 (.take false [32] .done))))) (.one 23 (.take false [24,25,26,27] (.one 30 (.one 31 (.take false [32] .done)))))) (.two 23 28 (.take false [24,25,26,27] (.one 28 (.one 30 (.one 31 (.take false [32] .done))))) (.one 23 (.take false [24,25,26,27] (.one 30 (.one 31 (.take false [32] .done)))))))⟩ | _ => none
namespace X20
open Rep (Stp Wrd Cel Drv Plc RS Fm Ev put)
theorem ptrC {i j b o : Nat} (M : Pm) (v : Value) (h : Rel M (.ptr i b o) v) : Rel M (.ptr j b o) v := by simp only [Rel] at h ⊢; exact h
theorem Imp.slotE {ts ts2 : List T} {ob : Obs} {gl : Glb} {j : Nat} {t t' : T} (hj : ts[j]? = some t) (h : ∀ M v, Rel M t v → Rel M t' v) (e : ts.set j t' = ts2) : Imp ts ob gl ts2 ob gl := e ▸ Imp.slotR hj h
structure Cb where
 what : Nat
 node : Nat
 key : Nat
 t : ByteArray
 ch : Nat
def cbC (z : Cb) : List T := [u8 z.what, u8 z.node, u8 z.key, txt z.t, .v (.int .u16 z.ch)]
def obsPt (bw ba bn bc n : Nat) (U W : List T) (hu hw : Value) : Obs := obsCm bw ba U W hu hw ++ [(bn, .cells [int (n : Nat)]), (bc, .cells [.fn 22 [.ptr 0 bw 0, .ptr 1 ba 0]])]
theorem remC (w d : Nat) (k : IntKind) : T.v (.int k ((w : Int).tmod (d : Nat))) = T.v (.int k (w % d : Nat)) := congrArg (fun z => T.v (.int k z)) (IntWalk.up_tmod rfl rfl)
theorem wrF (o : Rep.Out) (s : Option Stp) : ∃ z ok, wrT o s = .tup [.agg [.sl 34 (Row.aggs frC o.2.1), .sl 5 (Row.aggs evC o.2.2)], .agg (stC z), bool ok] := by
 cases s with
 | none => exact ⟨⟨0, 0, 0⟩, false, rfl⟩
 | some s => exact ⟨s, true, rfl⟩
section
variable (bw ba bn bc n : Nat) (U W : List T) (hu hw : Value) (gl : Glb) (Q : T → Obs → Glb → Prop)
theorem pt2 (Γ : Ctx) (z : Cb) (bx bo : Nat) (F E : List T) (hW : W.length ≤ 1000000) (hF : F.length ≤ 1000000) (nx : ∀ hw', wRiL1 Γ Q [kRiL0 [1,1,1]] ⟨frame 47 [(4, .ptr 5 bc 0), (5, .ptr 6 bx 0)], obsPt bw ba bn bc n U (W ++ F) hu hw' ++ [(bx, .cells (cbC z))], gl⟩) :
  wRiL1 Γ Q [kRiL0 [1,1]] ⟨frame 47 [(3, .ptr 0 bw 0), (4, .ptr 5 bc 0), (5, .ptr 6 bx 0), (6, .ptr 7 bo 0)], obsPt bw ba bn bc n U W hu hw ++ [(bx, .cells (cbC z)), (bo, .cells [.sl 34 F, .sl 5 E])], gl⟩ := by
 let HH : Nat → Nat → Hint := fun  | _, _ => .no
 exact run_sound ⟨HH, [((0, 3), ([4,5], 7))], plRiL0⟩ 400 (by kernel_rfl) (Yb bw (Yb bo (Ya (Yb hw (Ye (List.length W))) (Ya (Ya (show (List.length W + List.length F) * nat_lit 144 ≤ 140737488355328 by simp only [maxLen]; omega) (show List.length W + List.length F ≤ maxLen by simp only [maxLen]; omega)) (fun (Z0 : Value) => (Yk 1 bw (nx Z0)))))))
theorem pt3 (Γ : Ctx) (z : Cb) (bx : Nat) (Pn : List T → Value → Glb → Prop)
  (hc : ∀ Q' : T → Obs → Glb → Prop, (∀ W' hw' gl', Pn W' hw' gl' → Q' (.tup []) (obsCm bw ba U W' hu hw') gl') → TCalls Try.prog 22 [int (z.ch % 16 : Nat), .ptr 0 bw 0, .ptr 1 ba 0] (obsCm bw ba U W hu hw) gl Q')
  (hQ : ∀ W' hw' gl', Pn W' hw' gl' → Q (.tup []) (obsPt bw ba bn bc n U W' hu hw') gl') :
  wRiL1 Γ Q [kRiL0 [1,1,1]] ⟨frame 47 [(4, .ptr 5 bc 0), (5, .ptr 6 bx 0)], obsPt bw ba bn bc n U W hu hw ++ [(bx, .cells (cbC z))], gl⟩ := by
 have hw1 : T.v (.int .i64 (IntKind.wrap .i64 ((z.ch : Int).tmod 16))) = int (z.ch % 16 : Nat) := congrArg int (by
  rw [show (z.ch : Int).tmod 16 = ((z.ch % 16 : Nat) : Int) from IntWalk.up_tmod rfl rfl, wrap_i64 (by omega) (by omega)])
 generalize z.ch % 16 = c at *
 let HH : Nat → Nat → Hint := fun | 3, 4 => .res (int (c : Nat)) | 3, 5 => .call false (List T × Value × Glb) (fun a => Pn a.1 a.2.1 a.2.2) [0,1,2,3] true (fun _ => .tup []) (fun a => obsCm bw ba U a.1 hu a.2.1) (fun a => a.2.2) | _, _ => .no
 exact run_sound ⟨HH, [], plRiL0⟩ 400 (by kernel_rfl) (Yb bc (Yb bx (Ya hw1 (Ya (hc (HH 3 5).P fun W' hw' gl' h => ⟨(W', hw', gl'), h, rfl, rfl, Nat.le_of_ble_eq_true rfl, fun _ => rfl⟩) (fun (Z0 : List T × Value × Glb) => (fun (Z1 : Pn Z0.fst Z0.snd.fst Z0.snd.snd) => (hQ Z0.fst Z0.snd.fst Z0.snd.snd Z1)))))))
theorem pt_any (z : Cb) (hn1 : 1 ≤ n) (hn : n ≤ 5) (h1 : z.node < 256) (p : Nat) (hp : U[z.node % n]? = some (.gp p 0)) (ok : Bool) (s : Stp) (F : List Fm) (E : List Ev) (Pn : Dr → Glb → Prop) (t8 : ByteArray) (rmw : Bool)
  (ht : t8 = z.t.extract 0 (min z.t.size 8)) (hrm : rmw = decide (z.what % 2 = 1))
  (hc : ∀ Q' : T → Obs → Glb → Prop, (∀ D' gl', Pn D' gl' → Q' (.tup [.agg [.sl 34 (Row.aggs frC F), .sl 5 (Row.aggs evC E)], .agg (stC s), bool ok]) [] gl') → TCalls Try.prog 14 [.gp p 0, u8 (z.key % 6 : Nat), .agg [bool true, txt t8], bool rmw] [] gl Q')
  (nx : ∀ Γ bx bo D' gl', Pn D' gl' → wRiL1 Γ Q [kRiL0 [1,1]] ⟨frame 47 [(3, .ptr 0 bw 0), (4, .ptr 5 bc 0), (5, .ptr 6 bx 0), (6, .ptr 7 bo 0)], obsPt bw ba bn bc n U W hu hw ++ [(bx, .cells (cbC z)), (bo, .cells [.sl 34 (Row.aggs frC F), .sl 5 (Row.aggs evC E)])], gl'⟩) :
  TCalls Try.prog 23 [.agg (cbC z), .ptr 1 ba 0, .ptr 4 bn 0, .ptr 0 bw 0, .ptr 5 bc 0] (obsPt bw ba bn bc n U W hu hw) gl Q := by
 have e1 : U[((z.node % n : Nat) : Int).toNat]? = some (.gp p 0) := by rw [nI]; exact hp
 have r1 : T.v (.int .i64 ((IntKind.wrap .i64 (z.node : Int)).tmod (n : Int))) = int (z.node % n : Nat) := congrArg int (by
  rw [wrap_i64 (x := (z.node : Int)) (by omega) (by omega)]; exact IntWalk.up_tmod rfl rfl)
 have r2 := remC z.key 6 .u8
 have r3 : T.v (.bool (IntKind.wrap .u8 ((BitVec.ofInt 8 (z.what : Int) &&& BitVec.ofInt 8 1).toNat : Int) == 1)) = bool rmw := congrArg (fun b => T.v (.bool b)) (by
  have hb : (BitVec.ofInt 8 (z.what : Int) &&& BitVec.ofInt 8 1).toNat = z.what % 2 := by
   rw [BitVec.toNat_and, BitVec.ofInt_natCast, BitVec.toNat_ofNat, show (BitVec.ofInt 8 1).toNat = 1 from rfl, Nat.and_one_is_mod]
   omega
  rw [hb, hrm, IntWalk.u8_in _ (by omega)]
  by_cases e : z.what % 2 = 1
  ·rw [e]; rfl
  ·rw [decide_eq_false e]; exact beq_eq_false_iff_ne.2 (by omega))
 have ht' : z.t.extract (0 : Int).toNat (if (8 : Int) < (z.t.size : Int) then (8 : Int) else (z.t.size : Int)).toNat = t8 := by
  rw [ht]
  congr 1
  split <;> omega
 have ht' : some (T.agg [T.v (.bool true), T.v (.string (z.t.extract (0 : Int).toNat (if (8 : Int) < (z.t.size : Int) then (8 : Int) else (z.t.size : Int)).toNat))]) = some (.agg [bool true, txt t8]) := by rw [ht']; rfl
 have nx2 : ∀ Γ bx bs bo D' gl', Pn D' gl' → wRiL1 Γ Q [kRiL0 [1,1]] ⟨frame 47 [(3, .ptr 0 bw 0), (4, .ptr 5 bc 0), (5, .ptr 6 bx 0), (6, .ptr 8 bo 0)], obsPt bw ba bn bc n U W hu hw ++ [(bx, .cells (cbC z)), (bs, .cells (stC s)), (bo, .cells [.sl 34 (Row.aggs frC F), .sl 5 (Row.aggs evC E)])], gl'⟩ := fun Γ bx bs bo D' gl' h =>
  TWk.imp (nx Γ bx bo D' gl' h) ((Imp.sel (ob' := obsPt bw ba bn bc n U W hu hw ++ [(bx, .cells (cbC z)), (bo, .cells [.sl 34 (Row.aggs frC F), .sl 5 (Row.aggs evC E)])]) [0,1,2,3,4,5,6,8] (by decide) (by kernel_rfl)).trans (Imp.slotE (j := 6) (t := .ptr 8 bo 0) (t' := .ptr 7 bo 0) (by kernel_rfl) ptrC (by kernel_rfl)))
 have nx1 : ∀ Γ bx bo bs D' gl', Pn D' gl' → wRiL1 Γ Q [kRiL0 [1,1]] ⟨frame 47 [(3, .ptr 0 bw 0), (4, .ptr 5 bc 0), (5, .ptr 6 bx 0), (6, .ptr 7 bo 0)], obsPt bw ba bn bc n U W hu hw ++ [(bx, .cells (cbC z)), (bo, .cells [.sl 34 (Row.aggs frC F), .sl 5 (Row.aggs evC E)]), (bs, .cells (stC s))], gl'⟩ := fun Γ bx bo bs D' gl' h =>
  TWk.imp (nx Γ bx bo D' gl' h) (Imp.sel [0,1,2,3,4,5,6,7] (by decide) (by kernel_rfl))
 clear nx
 refine TCalls.of Try.func23 rfl (CanCall.of Try.func23 rfl (by decide)) [0,1,2,3,4,5] fun Γ => ?_
 let HH : Nat → Nat → Hint := fun | 1, 5 => .res (int (z.node % n : Nat)) | 1, 6 => .res (.gp p 0) | 1, 10 => .res (u8 (z.key % 6 : Nat)) | 1, 18 => .res (.agg [bool true, txt t8]) | 1, 22 => .res (bool rmw) | 1, 23 => .call false (Dr × Glb) (fun a => Pn a.1 a.2) [] true (fun _ => .tup [.agg [.sl 34 (Row.aggs frC F), .sl 5 (Row.aggs evC E)], .agg (stC s), bool ok]) (fun _ => []) (fun a => a.2) | _, _ => .no
 exact run_sound ⟨HH, [((0, 2), ([3,4,5,6], 9))], fun | 1 => some ⟨[1,4,6], [23,30,31], .take true [0,1,2,3,4,5,6,7,8,9,10,11,12,13,14,15,16,17,18,19,20,21,22] (.three 23 28 29 (.take false [24,25,26,27] (.two 28 29 (.one 29 (.one 30 (.one 31 (.take false [32] .done)))) (.one 28 (.one 30 (.one 31 (.take false [32] .done)))))) (.two 23 29 (.take false [24,25,26,27] (.one 29 (.one 30 (.one 31 (.take false [32] .done))))) (.one 23 (.take false [24,25,26,27] (.one 30 (.one 31 (.take false [32] .done)))))) (.two 23 28 (.take false [24,25,26,27] (.one 28 (.one 30 (.one 31 (.take false [32] .done))))) (.one 23 (.take false [24,25,26,27] (.one 30 (.one 31 (.take false [32] .done)))))))⟩ | n => plRiL0 n⟩ 400 (by kernel_rfl) (fun (Z0 : Nat) => (Yb ba (Yb Z0 (Yb bn (Ya (show ¬(↑n : Int) = (0 : Int) by omega) (Ya r1 (Ya (show (0 : Int) ≤ (↑(z.node % n) : Int) by omega) (Ya e1 (Yb Z0 (Yb (u8 (z.key % 6)) (Yb Z0 (Yb Z0 (Ya (Ya (show (0 : Int) ≤ (↑(0 : Nat) : Int) by omega) (Ya (show (↑(0 : Nat) : Int) ≤ (IntKind.i64, if (8 : Int) < (↑(ByteArray.size z.t) : Int) then (8 : Int) else (↑(ByteArray.size z.t) : Int)).snd by omega) (show (IntKind.i64, if (8 : Int) < (↑(ByteArray.size z.t) : Int) then (8 : Int) else (↑(ByteArray.size z.t) : Int)).snd ≤ (↑(ByteArray.size z.t) : Int) by omega))) (Ya ht' (Yb Z0 (Ya r3 (Ya (Ya (hc (HH 1 23).P fun D' gl' h => ⟨(D', gl'), h, rfl, rfl, Nat.zero_le _, fun _ => rfl⟩) (fun (Z1 : Dr × Glb) => (fun (Z2 : Pn Z1.fst Z1.snd) => (Ya (fun (Z3 : Nat) => (fun (Z4 : Nat) => (Yk 2 Z3 (Yk 3 Z4 (nx1 Γ Z0 Z3 Z4 Z1.fst Z1.snd Z2))))) (fun (Z5 : Nat) => (fun (Z6 : Nat) => (Yk 2 Z6 (Yk 3 Z5 (nx2 Γ Z0 Z5 Z6 Z1.fst Z1.snd Z2))))))))) (Ya (fun (Z7 : Nat) => (Ya (Ya (hc (HH 1 23).P fun D' gl' h => ⟨(D', gl'), h, rfl, rfl, Nat.zero_le _, fun _ => rfl⟩) (fun (Z8 : Dr × Glb) => (fun (Z9 : Pn Z8.fst Z8.snd) => (fun (Z10 : Nat) => (Yk 2 Z7 (Yk 3 Z10 (nx1 Γ Z0 Z7 Z10 Z8.fst Z8.snd Z9))))))) (fun (Z11 : Nat) => (Ya (hc (HH 1 23).P fun D' gl' h => ⟨(D', gl'), h, rfl, rfl, Nat.zero_le _, fun _ => rfl⟩) (fun (Z12 : Dr × Glb) => (fun (Z13 : Pn Z12.fst Z12.snd) => (Yk 2 Z7 (Yk 3 Z11 (nx1 Γ Z0 Z7 Z11 Z12.fst Z12.snd Z13))))))))) (fun (Z14 : Nat) => (Ya (Ya (hc (HH 1 23).P fun D' gl' h => ⟨(D', gl'), h, rfl, rfl, Nat.zero_le _, fun _ => rfl⟩) (fun (Z15 : Dr × Glb) => (fun (Z16 : Pn Z15.fst Z15.snd) => (fun (Z17 : Nat) => (Yk 2 Z17 (Yk 3 Z14 (nx2 Γ Z0 Z14 Z17 Z15.fst Z15.snd Z16))))))) (fun (Z18 : Nat) => (Ya (hc (HH 1 23).P fun D' gl' h => ⟨(D', gl'), h, rfl, rfl, Nat.zero_le _, fun _ => rfl⟩) (fun (Z19 : Dr × Glb) => (fun (Z20 : Pn Z19.fst Z19.snd) => (Yk 2 Z18 (Yk 3 Z14 (nx2 Γ Z0 Z14 Z18 Z19.fst Z19.snd Z20)))))))))))))))))))))))))))
end
end X20
end Go.Proofs.Ytafcbipmmjegcaa.Vm
