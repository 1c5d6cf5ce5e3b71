/- Texts of this claim: RhH, RhI. -/
import Derived.Test.YtafcbipmmjegcaaMg15
import Derived.Test.YtafcbipmmjegcaaMg33
namespace Go.Proofs.Ytafcbipmmjegcaa.Vm
open Go Go.RowKit
set_option maxRecDepth 100000
noncomputable abbrev kRhH0 (l : List Nat) : It := .code (sub (bd Try.f17) l)
noncomputable abbrev wRhH1 (Γ : Ctx) (Q : T → Obs → Glb → Prop) : List It → S → Prop := TWk Try.prog Γ (fin Try.prog Try.f17 [0, 1, 2] Q)
def plRhH0 : Nat → Option RPlan := fun | 4 => some ⟨[], [13, 15, 16], .take true [1,2,4,5,6,7,8,9,10,11,12] (.one 0 (.one 3 (.one 13 (.take false [14] (.one 15 (.one 16 .done))))))⟩ | _ => none
namespace X20
open Rep (Stp Wrd Cel Drv Plc RS Fm Ev put)
def obsC (bw ba : Nat) (U W : List T) (hw : Value) : Obs := [(bw, .cells [.slx 34 2 W hw]), (ba, .cells [.sl 1 U]), (0, .room 34 70 W.length hw)]
theorem slxR {k i j : Nat} {es : List T} {x : Value} (M : Pm) (v : Value) (h : Rel M (.slx k i es x) v) : Rel M (.slx k j es x) v := by simp only [Rel] at h ⊢; exact h
section
variable (Γ : Ctx) (bw ba : Nat) (U : List T) (most i : Nat) (W : List T) (hw : Value) (gl : Glb) (Q : T → Obs → Glb → Prop)
theorem cmEnd (h : most ≤ i ∨ W.length = 0) (nx : Q (.tup []) (obsC bw ba U W hw) gl) : wRhH1 Γ Q [kRhH0 [1,0], .blk 0] ⟨frame 35 [(0, int (most : Nat)), (1, .ptr 0 bw 0), (2, .ptr 1 ba 0), (4, int (i : Nat))], obsC bw ba U W hw, gl⟩ := by
  let HH : Nat → Nat → Hint := fun  | _, _ => .no
  exact run_sound ⟨HH, [((0, 3), ([0,1,2,4], 3))], plRhH0⟩ 400 (by kernel_rfl) (Ys (decide ((↑i : Int) < (↑most : Int))) (fun Z0 => (Yb bw (Ys (decide ((↑(List.length W) : Int) > (0 : Int))) (fun Z1 => (show wRhH1 Γ Q [kRhH0 [1,0,0,1,0,0], It.blk 1, kRhH0 [1,0,0,1,1], kRhH0 [1,0], It.blk 0] (S.mk (frame 35 [(0, int most), (1, T.ptr 0 bw 0), (2, T.ptr 1 ba 0), (4, int i)]) [(bw, Ob.cells [T.slx 34 2 W hw]), (ba, Ob.cells [T.sl 1 U]), (0, Ob.room 34 70 (List.length W) hw)] gl) by exfalso; have a1 := of_decide_eq_true Z0; have a2 := of_decide_eq_true Z1; omega)) (fun Z2 => nx)))) (fun Z3 => nx))
theorem imp_cm {ts : List T} (n0 bf : Nat) (hw2 : Value) (cs : List T) : Imp ts [(bw, .cells [.slx 34 4 W hw2]), (ba, .cells [.sl 1 U]), (0, .room 34 70 n0 hw), (bf, .cells cs), (0, .room 34 70 W.length hw2)] gl ts (obsC bw ba U W hw2) gl :=
  (Imp.sel (ob' := [(bw, .cells [.slx 34 4 W hw2]), (ba, .cells [.sl 1 U]), (0, .room 34 70 W.length hw2)]) [0,1,4] (by decide) rfl).trans
    (Imp.ob (i := 0) (x := (bw, .cells [.slx 34 4 W hw2])) (y := (bw, .cells [.slx 34 2 W hw2])) rfl (fun M w ⟨C, t, h1, h2, h3⟩ => ⟨C, t, h1, by
      simp only [RelL] at h2 ⊢
      obtain ⟨u, us, e, q, e2⟩ := h2
      exact ⟨u, us, e, slxR _ _ q, e2⟩, h3⟩) fun _ h => h)
theorem cmOne (V : List T) (hi : i < most) (hm : most ≤ 1000000) (f : Fm) (hV : V = .agg (frC f) :: W) (hl : W.length ≤ 1000000) (j : Nat) (hj : j < 200) (hf : f.to = 17 + j) (p : Nat) (hp : U[j]? = some (.gp p 0)) (F : List Fm) (E : List Ev) (Pn : Dr → Glb → Prop) (hF : F.length ≤ 1000000)
    (hc : ∀ Q' : T → Obs → Glb → Prop, (∀ D' gl', Pn D' gl' → Q' (outT F E) [] gl') → TCalls Try.prog 15 [.gp p 0, .agg (frC f), bool true] [] gl Q')
    (nx : ∀ D' gl' hw', Pn D' gl' → wRhH1 Γ Q [kRhH0 [1,0], .blk 0] ⟨frame 35 [(0, int (most : Nat)), (1, .ptr 0 bw 0), (2, .ptr 1 ba 0), (4, int (i + 1 : Nat))], obsC bw ba U (W ++ Row.aggs frC F) hw', gl'⟩) :
    wRhH1 Γ Q [kRhH0 [1,0], .blk 0] ⟨frame 35 [(0, int (most : Nat)), (1, .ptr 0 bw 0), (2, .ptr 1 ba 0), (4, int (i : Nat))], obsC bw ba U V hw, gl⟩ := by
  have hwi : T.v (.int .i64 (IntKind.wrap .i64 ((i : Int) + 1))) = int (i + 1 : Nat) := congrArg int (by rw [wrap_i64 (by omega) (by omega)]; omega)
  have hw2 : T.v (.int .i64 (IntKind.wrap .i64 (IntKind.wrap .i64 (f.to : Int) - 17))) = int (j : Nat) := congrArg int (by rw [wrap_i64 (x := (f.to : Int)) (by omega) (by omega), wrap_i64 (by omega) (by omega)]; omega)
  have e1 : U[((j : Nat) : Int).toNat]? = some (.gp p 0) := by rw [nI]; exact hp
  have e0 : V[(0 : Int).toNat]? = some (.agg (frC f)) := by rw [hV]; rfl
  have hV0 : V.length = W.length + 1 := by rw [hV]; rfl
  have hFl : (Row.aggs frC F).length ≤ 1000000 := by rw [Row.aggs_len]; exact hF
  unfold outT at hc
  generalize hAF : Row.aggs frC F = AF at *
  have nx : ∀ n0 bf D' gl' hw2, Pn D' gl' → wRhH1 Γ Q [kRhH0 [1,0], .blk 0] ⟨frame 35 [(0, int (most : Nat)), (1, .ptr 0 bw 0), (2, .ptr 1 ba 0), (4, int (i + 1 : Nat))], [(bw, .cells [.slx 34 4 (W ++ AF) hw2]), (ba, .cells [.sl 1 U]), (0, .room 34 70 n0 hw), (bf, .cells (frC f)), (0, .room 34 70 (W ++ AF).length hw2)], gl'⟩ := fun n0 bf D' gl' hw2 h =>
    TWk.imp (nx D' gl' hw2 h) (imp_cm bw ba U (W ++ AF) hw gl' n0 bf hw2 (frC f))
  obtain ⟨L, hL⟩ : ∃ L, L = (V.take ((V.length : Nat) : Int).toNat).drop (1 : Int).toNat := ⟨_, rfl⟩
  have he : W = L := by rw [hL, hV]; simp
  rw [he] at nx hl hV0
  have h34 : 0 < 34 := by decide
  have c0 : (0 + L.length) * 144 ≤ 140737488355328 := by omega
  have c1 : 0 + L.length ≤ maxLen := by simp only [maxLen]; omega
  have c2 : (L.length + AF.length) * 144 ≤ 140737488355328 := by omega
  have c3 : L.length + AF.length ≤ maxLen := by simp only [maxLen]; omega
  clear he hV hl
  subst hL
  let HH : Nat → Nat → Hint := fun | 3, 1 => .res (.agg (frC f)) | 2, 1 => .res (int (i + 1 : Nat)) | 4, 9 => .res (int (j : Nat)) | 4, 10 => .res (.gp p 0) | 4, 13 => .call false (Dr × Glb) (fun a => Pn a.1 a.2) [] true (fun _ => .agg [.sl 34 AF, .sl 5 (Row.aggs evC E)]) (fun _ => []) (fun a => a.2) | _, _ => .no
  let z0 := [(bw, Ob.cells [T.slx 34 2 V hw]), (ba, Ob.cells [T.sl 1 U]), (0, Ob.room 34 70 (List.length V) hw)]
  exact run_sound ⟨HH, [((2, 1), ([0,1,2,4], 5))], fun | 4 => some ⟨[0,1,3], [13,15,16], .take true [1,2,4,5,6,7,8,9,10,11,12] (.one 0 (.one 3 (.one 13 (.take false [14] (.one 15 (.one 16 .done))))))⟩ | n => plRhH0 n⟩ 400 (by kernel_rfl) (Ys (decide ((↑i : Int) < (↑most : Int))) (fun Z0 => (Yb bw (Ys (decide ((↑(List.length V) : Int) > (0 : Int))) (fun Z1 => (Yb bw (Ya (show (0 : Int) ≤ (0 : Int) by omega) (Ya e0 (fun (Z2 : Nat) => (Yk 34 Z2 (Yb bw (Ya (Ya (show (0 : Int) ≤ (IntKind.i64, (1 : Int)).snd by omega) (Ya (show (IntKind.i64, (1 : Int)).snd ≤ (↑(List.length V) : Int) by omega) (show (↑(List.length V) : Int) ≤ (↑(List.length V) : Int) by omega))) (Yb ba (Yb Z2 (Ya hw2 (Ya (show (0 : Int) ≤ (↑j : Int) by omega) (Ya e1 (Yb Z2 (Ya (show 0 < nat_lit 34 by omega) (fun (Z3 : Value) => (Ya (Yb Z3 (Ye (0))) (Ya (Ya (show (0 + List.length (List.drop (Int.toNat (IntKind.i64, (1 : Int)).snd) (List.take (Int.toNat (↑(List.length V) : Int)) V))) * nat_lit 144 ≤ 140737488355328 by omega) (show 0 + List.length (List.drop (Int.toNat (IntKind.i64, (1 : Int)).snd) (List.take (Int.toNat (↑(List.length V) : Int)) V)) ≤ maxLen by omega)) (fun (Z4 : Value) => (Ya (hc (HH 4 13).P fun D' gl' h => ⟨(D', gl'), h, rfl, rfl, Nat.zero_le _, fun _ => rfl⟩) (fun (Z5 : Dr × Glb) => (fun (Z6 : Pn Z5.fst Z5.snd) => (Ya (Yb Z4 (Ye (List.length (List.drop (Int.toNat (IntKind.i64, (1 : Int)).snd) (List.take (Int.toNat (↑(List.length V) : Int)) V))))) (Ya (Ya (show (List.length (List.drop (Int.toNat (IntKind.i64, (1 : Int)).snd) (List.take (Int.toNat (↑(List.length V) : Int)) V)) + List.length AF) * nat_lit 144 ≤ 140737488355328 by omega) (show List.length (List.drop (Int.toNat (IntKind.i64, (1 : Int)).snd) (List.take (Int.toNat (↑(List.length V) : Int)) V)) + List.length AF ≤ maxLen by omega)) (fun (Z7 : Value) => (Yk 1 bw (Ya hwi (nx (List.length V) Z2 Z5.fst Z5.snd Z7 Z6)))))))))))))))))))))))))))) (fun Z8 => (show Q (T.tup []) z0 gl by exfalso; have a1 := of_decide_eq_false Z8; omega))))) (fun Z9 => (show Q (T.tup []) z0 gl by exfalso; have a1 := of_decide_eq_false Z9; omega)))
theorem cm_loop (n w b m : Nat) (hn : n ≤ 5) (hw60 : w ≤ 60) (hb : b ≤ 900000) (hm : most ≤ 1000000) (B : Nat → Nat)
    (hQ : ∀ R' DD' W' hw' gl', CW n w b m R' W' → (b ≤ most → W' = []) → Lot n B R' DD' gl' → Q (.tup []) (obsC bw ba (gpsC B n) (Row.aggs frC W') hw') gl') :
    ∀ (z i : Nat) (R : Nat → RS) (DD : Nat → Dr) (W : List Fm) (hw : Value) (gl : Glb), i + z = most → CW n w (b - i) m R W → Lot n B R DD gl →
    wRhH1 Γ Q [kRhH0 [1,0], .blk 0] ⟨frame 35 [(0, int (most : Nat)), (1, .ptr 0 bw 0), (2, .ptr 1 ba 0), (4, int (i : Nat))], obsC bw ba (gpsC B n) (Row.aggs frC W) hw, gl⟩ := by
  intro z
  induction z with
  | zero =>
    intro i R DD W hw gl hi law lot
    refine cmEnd Γ bw ba (gpsC B n) most i (Row.aggs frC W) hw gl Q (.inl (by omega)) (hQ R DD W hw gl (law.mono (Nat.le_refl _) (Nat.sub_le _ _) (Nat.le_refl _)) (fun hbm => ?_) lot)
    have := law.ci.len hn
    exact List.eq_nil_of_length_eq_zero (by omega)
  | succ z ih =>
    intro i R DD W hw gl hi law lot
    cases W with
    | nil => exact cmEnd Γ bw ba (gpsC B n) most i (Row.aggs frC []) hw gl Q (.inr rfl) (hQ R DD [] hw gl (law.mono (Nat.le_refl _) (Nat.sub_le _ _) (Nat.le_refl _)) (fun _ => rfl) lot)
    | cons f W =>
      obtain ⟨j, hj, ht, h17, hjv⟩ := law.ci.fw.in_ (List.mem_cons_self ..) hn
      obtain ⟨hb1, law'⟩ := law.on hn hw60 hj ht
      have hlen := law.ci.len hn
      rw [List.length_cons] at hlen
      have hF := (on_len (R j) f true (law.oth hj)).1
      refine cmOne Γ bw ba (gpsC B n) most i (Row.aggs frC W) hw gl Q (Row.aggs frC (f :: W)) (by omega) hm f rfl (by rw [Row.aggs_len]; omega) j (by omega) (by omega) (B j) (gpsC_at hj) (Rep.on (R j) f true).2.1 (Rep.on (R j) f true).2.2
        (fun D' gl' => Lot n B (put R j (Rep.on (R j) f true).1) (put DD j D') gl') (by omega) (fun Q' hq => lot_on lot hj f true (law.lim hn hj) (law.oth hj) Q' fun D' gl' h => hq D' gl' h) fun D' gl' hw' h => ?_
      rw [show Row.aggs frC W ++ Row.aggs frC (Rep.on (R j) f true).2.1 = Row.aggs frC (W ++ (Rep.on (R j) f true).2.1) from (List.map_append ..).symm]
      exact ih (i + 1) _ _ _ hw' gl' (by omega) (law'.mono (Nat.le_refl _) (by omega) (Nat.le_refl _)) h
end
theorem come_any (n w b m : Nat) (hn : n ≤ 5) (hw60 : w ≤ 60) (hb : b ≤ 900000) (most : Nat) (hm : most ≤ 1000000) (B : Nat → Nat) (bw ba : Nat) (R : Nat → RS) (DD : Nat → Dr) (W : List Fm) (hw : Value) (gl : Glb) (law : CW n w b m R W) (lot : Lot n B R DD gl) (Q : T → Obs → Glb → Prop)
    (hQ : ∀ R' DD' W' hw' gl', CW n w b m R' W' → (b ≤ most → W' = []) → Lot n B R' DD' gl' → Q (.tup []) (obsC bw ba (gpsC B n) (Row.aggs frC W') hw') gl') :
    TCalls Try.prog 17 [int (most : Nat), .ptr 0 bw 0, .ptr 1 ba 0] (obsC bw ba (gpsC B n) (Row.aggs frC W) hw) gl Q := by
  have lp := fun Γ => cm_loop Γ bw ba most Q n w b m hn hw60 hb hm B hQ most 0 R DD W hw gl (Nat.zero_add _) law lot
  clear hQ law lot
  generalize Row.aggs frC W = V at *
  generalize gpsC B n = U at *
  refine TCalls.of Try.func17 rfl (CanCall.of Try.func17 rfl (by decide)) [0,1,2] fun Γ => ?_
  let HH : Nat → Nat → Hint := fun  | _, _ => .no
  exact run_sound ⟨HH, [((2, 1), ([0,1,2,4], 3))], plRhH0⟩ 400 (by kernel_rfl) (lp Γ)
end X20
end Go.Proofs.Ytafcbipmmjegcaa.Vm
namespace Go.Proofs.Ytafcbipmmjegcaa.Vm
open Go Go.RowKit
set_option maxRecDepth 100000
noncomputable abbrev kRhI0 (l : List Nat) : It := .code (sub (bd Try.f4) l)
noncomputable abbrev wRhI1 (Γ : Ctx) (Q : T → Obs → Glb → Prop) : List It → S → Prop := TWk Try.prog Γ (fin Try.prog Try.f4 [] Q)
def plRhI0 : Nat → Option RPlan := fun | 19 => some ⟨[], [7, 8], .take true [0,1,2,3,4] (.one 5 (.take true [6] (.one 7 (.one 8 .done))))⟩ | 20 => some ⟨[], [19, 26, 27], .take true [0,1,2,3,4,5,6,7,8,9,10,11,12,13,14,15,16,17,18] (.three 19 24 25 (.take false [20,21,22,23] (.two 24 25 (.one 25 (.one 26 (.one 27 (.take false [28] .done)))) (.one 24 (.one 26 (.one 27 (.take false [28] .done)))))) (.two 19 25 (.take false [20,21,22,23] (.one 25 (.one 26 (.one 27 (.take false [28] .done))))) (.one 19 (.take false [20,21,22,23] (.one 26 (.one 27 (.take false [28] .done)))))) (.two 19 24 (.take false [20,21,22,23] (.one 24 (.one 26 (.one 27 (.take false [28] .done))))) (.one 19 (.take false [20,21,22,23] (.one 26 (.one 27 (.take false [28] .done)))))))⟩ | 30 => some ⟨[], [7, 8], .take true [0,1,2,3,4] (.one 5 (.take true [6] (.one 7 (.one 8 .done))))⟩ | _ => none
namespace X20
open Rep (Stp Wrd Cel Drv Plc RS Fm Ev put rN vN)
theorem ptrC {i j b o : Nat} (M : Pm) (v : Value) (h : Rel M (.ptr i b o) v) : Rel M (.ptr j b o) v := by simp only [Rel] at h ⊢; exact h
theorem Imp.slotE {ts ts2 : List T} {ob : Obs} {gl : Glb} {j : Nat} {t t' : T} (hj : ts[j]? = some t) (h : ∀ M v, Rel M t v → Rel M t' v) (e : ts.set j t' = ts2) : Imp ts ob gl ts2 ob gl := e ▸ Imp.slotR hj h
structure Cb where
  what : Nat
  node : Nat
  key : Nat
  t : ByteArray
  ch : Nat
def cbC (z : Cb) : List T := [u8 z.what, u8 z.node, u8 z.key, txt z.t, .v (.int .u16 z.ch)]
theorem remC (w d : Nat) (k : IntKind) : T.v (.int k ((w : Int).tmod (d : Nat))) = T.v (.int k (w % d : Nat)) := congrArg (fun z => T.v (.int k z)) (IntWalk.up_tmod rfl rfl)
theorem eqC {a b : Nat} (h : ((a : Int) == (b : Int)) = true) : a = b := by have := beq_iff_eq.1 h; omega
section
variable (Γ : Ctx) (bw ba : Nat) (acts U : List T) (n i : Nat) (W : List T) (hw : Value) (gl : Glb) (Q : T → Obs → Glb → Prop)
theorem caAct (z : Cb) (hz : acts[i]? = some (.agg (cbC z))) (hi : i < 60) (hn : n ≤ 5) (hn1 : 1 ≤ n) (h1 : z.node < 256)
    (n0 : ∀ bx, z.what % 4 = 0 → wRhI1 Γ Q [kRhI0 [1,1,1,1,1,1,1,0,1,0,0,1,0,0,1,1,0,1,0], kRhI0 [1,1,1,1,1,1,1,0,1,0,0,1,0,0,1,1,1], .blk 3, kRhI0 [1,1,1,1,1,1,1,0,1,0,0,1,1], kRhI0 [1,1,1,1,1,1,1,0,1,0], .blk 2, kRhI0 [1,1,1,1,1,1,1,1]] ⟨frame 185 [(1, .sl 5 acts), (5, int (n : Nat)), (6, .ptr 1 ba 0), (9, .ptr 0 bw 0), (10, .fn 17 [.ptr 0 bw 0, .ptr 1 ba 0]), (11, int (i : Nat)), (12, .ptr 3 bx 0), (13, int (z.node % n : Nat))], obsC bw ba U W hw ++ [(bx, .cells (cbC z))], gl⟩)
    (n1 : ∀ bx, z.what % 4 ≠ 0 → wRhI1 Γ Q [kRhI0 [1,1,1,1,1,1,1,0,1,0,0,1,0,0,1,1,0,1,1], kRhI0 [1,1,1,1,1,1,1,0,1,0,0,1,0,0,1,1,1], .blk 3, kRhI0 [1,1,1,1,1,1,1,0,1,0,0,1,1], kRhI0 [1,1,1,1,1,1,1,0,1,0], .blk 2, kRhI0 [1,1,1,1,1,1,1,1]] ⟨frame 185 [(1, .sl 5 acts), (5, int (n : Nat)), (6, .ptr 1 ba 0), (9, .ptr 0 bw 0), (10, .fn 17 [.ptr 0 bw 0, .ptr 1 ba 0]), (11, int (i : Nat)), (12, .ptr 3 bx 0), (13, int (z.node % n : Nat))], obsC bw ba U W hw ++ [(bx, .cells (cbC z))], gl⟩) :
    wRhI1 Γ Q [kRhI0 [1,1,1,1,1,1,1,0,1,0], .blk 2, kRhI0 [1,1,1,1,1,1,1,1]] ⟨frame 185 [(1, .sl 5 acts), (5, int (n : Nat)), (6, .ptr 1 ba 0), (9, .ptr 0 bw 0), (10, .fn 17 [.ptr 0 bw 0, .ptr 1 ba 0]), (11, int (i : Nat))], obsC bw ba U W hw, gl⟩ := by
  have e1 : acts[((i : Nat) : Int).toNat]? = some (.agg (cbC z)) := by rw [nI]; exact hz
  have hl : i < acts.length := (List.getElem?_eq_some_iff.1 hz).1
  have r1 : T.v (.int .i64 ((IntKind.wrap .i64 (z.node : Int)).tmod (n : Int))) = int (z.node % n : Nat) := congrArg int (by
    rw [wrap_i64 (x := (z.node : Int)) (by omega) (by omega)]; exact IntWalk.up_tmod rfl rfl)
  have r2 := remC z.what 4 .u8
  generalize hr : z.what % 4 = r at *
  let HH : Nat → Nat → Hint := fun | 16, 2 => .res (.agg (cbC z)) | 17, 4 => .res (int (z.node % n : Nat)) | 18, 2 => .res (u8 (r : Nat)) | _, _ => .no
  let z0 := S.mk (frame 185 [(5, int n), (6, T.ptr 1 ba 0), (9, T.ptr 0 bw 0), (10, T.fn 17 [T.ptr 0 bw 0, T.ptr 1 ba 0])]) [(bw, Ob.cells [T.slx 34 2 W hw]), (ba, Ob.cells [T.sl 1 U]), (0, Ob.room 34 70 (List.length W) hw)] gl
  let z1 := [kRhI0 [1,1,1,1,1,1,1,1]]
  exact run_sound ⟨HH, [((0, 19), ([1,5,6,9,10,11,12,13], 4)), ((0, 20), ([1,5,6,9,10,11,12,13], 4)), ((0, 23), ([5,6,9,10], 3))], plRhI0⟩ 400 (by kernel_rfl) (Ys (decide ((↑i : Int) < (↑(List.length acts) : Int))) (fun Z0 => (Ys (decide ((↑i : Int) < (60 : Int))) (fun Z1 => (Ya (show (0 : Int) ≤ (↑i : Int) by omega) (Ya e1 (fun (Z2 : Nat) => (Yk 5 Z2 (Yb Z2 (Ya (show ¬(↑n : Int) = (0 : Int) by omega) (Ya r1 (Yb Z2 (Ya r2 (Ys ((↑r : Int) == (0 : Int)) (fun Z3 => (n0 Z2 (eqC (b := 0) Z3))) (fun Z4 => (n1 Z2 (fun e => by subst e; exact absurd Z4 (by decide))))))))))))))) (fun Z5 => (show wRhI1 Γ Q z1 z0 by exfalso; have a1 := of_decide_eq_false Z5; omega)))) (fun Z6 => (show wRhI1 Γ Q z1 z0 by exfalso; have a1 := of_decide_eq_false Z6; omega)))
theorem caEnd (h : acts.length ≤ i ∨ 60 ≤ i) (nx : wRhI1 Γ Q [kRhI0 [1,1,1,1,1,1,1,1]] ⟨frame 185 [(5, int (n : Nat)), (6, .ptr 1 ba 0), (9, .ptr 0 bw 0), (10, .fn 17 [.ptr 0 bw 0, .ptr 1 ba 0])], obsC bw ba U W hw, gl⟩) : wRhI1 Γ Q [kRhI0 [1,1,1,1,1,1,1,0,1,0], .blk 2, kRhI0 [1,1,1,1,1,1,1,1]] ⟨frame 185 [(1, .sl 5 acts), (5, int (n : Nat)), (6, .ptr 1 ba 0), (9, .ptr 0 bw 0), (10, .fn 17 [.ptr 0 bw 0, .ptr 1 ba 0]), (11, int (i : Nat))], obsC bw ba U W hw, gl⟩ := by
  let HH : Nat → Nat → Hint := fun  | _, _ => .no
  exact run_sound ⟨HH, [((0, 16), ([1,5,6,9,10,11], 3)), ((0, 23), ([5,6,9,10], 3))], plRhI0⟩ 400 (by kernel_rfl) (Ys (decide ((↑i : Int) < (↑(List.length acts) : Int))) (fun Z0 => (Ys (decide ((↑i : Int) < (60 : Int))) (fun Z1 => (show wRhI1 Γ Q [kRhI0 [1,1,1,1,1,1,1,0,1,0,0,1,0,0], It.blk 3, kRhI0 [1,1,1,1,1,1,1,0,1,0,0,1,1], kRhI0 [1,1,1,1,1,1,1,0,1,0], It.blk 2, kRhI0 [1,1,1,1,1,1,1,1]] (S.mk (frame 185 [(1, T.sl 5 acts), (5, int n), (6, T.ptr 1 ba 0), (9, T.ptr 0 bw 0), (10, T.fn 17 [T.ptr 0 bw 0, T.ptr 1 ba 0]), (11, int i)]) [(bw, Ob.cells [T.slx 34 2 W hw]), (ba, Ob.cells [T.sl 1 U]), (0, Ob.room 34 70 (List.length W) hw)] gl) by exfalso; have a1 := of_decide_eq_true Z0; have a2 := of_decide_eq_true Z1; omega)) (fun Z2 => nx))) (fun Z3 => nx))
theorem caTick (z : Cb) (bx who : Nat) (p : Nat) (hp : U[who]? = some (.gp p 0)) (F : List Fm) (E : List Ev) (Pn : Dr → Glb → Prop) (hW : W.length ≤ 1000000) (hF : F.length ≤ 1000000)
    (hc : ∀ Q' : T → Obs → Glb → Prop, (∀ D' gl', Pn D' gl' → Q' (outT F E) [] gl') → TCalls Try.prog 12 [.gp p 0, int 2, int 3, bool true] [] gl Q')
    (nx : ∀ D' gl' hw', Pn D' gl' → wRhI1 Γ Q [kRhI0 [1,1,1,1,1,1,1,0,1,0,0,1,0,0,1,1,1], .blk 3, kRhI0 [1,1,1,1,1,1,1,0,1,0,0,1,1], kRhI0 [1,1,1,1,1,1,1,0,1,0], .blk 2, kRhI0 [1,1,1,1,1,1,1,1]] ⟨frame 185 [(1, .sl 5 acts), (5, int (n : Nat)), (6, .ptr 1 ba 0), (9, .ptr 0 bw 0), (10, .fn 17 [.ptr 0 bw 0, .ptr 1 ba 0]), (11, int (i : Nat)), (12, .ptr 3 bx 0)], obsC bw ba U (W ++ Row.aggs frC F) hw' ++ [(bx, .cells (cbC z))], gl'⟩) :
    wRhI1 Γ Q [kRhI0 [1,1,1,1,1,1,1,0,1,0,0,1,0,0,1,1,0,1,0], kRhI0 [1,1,1,1,1,1,1,0,1,0,0,1,0,0,1,1,1], .blk 3, kRhI0 [1,1,1,1,1,1,1,0,1,0,0,1,1], kRhI0 [1,1,1,1,1,1,1,0,1,0], .blk 2, kRhI0 [1,1,1,1,1,1,1,1]] ⟨frame 185 [(1, .sl 5 acts), (5, int (n : Nat)), (6, .ptr 1 ba 0), (9, .ptr 0 bw 0), (10, .fn 17 [.ptr 0 bw 0, .ptr 1 ba 0]), (11, int (i : Nat)), (12, .ptr 3 bx 0), (13, int (who : Nat))], obsC bw ba U W hw ++ [(bx, .cells (cbC z))], gl⟩ := by
  have e1 : U[((who : Nat) : Int).toNat]? = some (.gp p 0) := by rw [nI]; exact hp
  have hFl : (Row.aggs frC F).length ≤ 1000000 := by rw [Row.aggs_len]; exact hF
  unfold outT at hc
  generalize Row.aggs frC F = AF at *
  let HH : Nat → Nat → Hint := fun | 19, 3 => .res (.gp p 0) | 19, 5 => .call false (Dr × Glb) (fun a => Pn a.1 a.2) [] true (fun _ => .agg [.sl 34 AF, .sl 5 (Row.aggs evC E)]) (fun _ => []) (fun a => a.2) | _, _ => .no
  exact run_sound ⟨HH, [((0, 22), ([1,5,6,9,10,11,12], 4))], fun | 19 => some ⟨[0,1], [7,8], .take true [0,1,2,3,4] (.one 5 (.take true [6] (.one 7 (.one 8 .done))))⟩ | n => plRhI0 n⟩ 400 (by kernel_rfl) (Yb bw (Yb ba (Ya (show (0 : Int) ≤ (↑who : Int) by omega) (Ya e1 (Ya (hc (HH 19 5).P fun D' gl' h => ⟨(D', gl'), h, rfl, rfl, Nat.zero_le _, fun _ => rfl⟩) (fun (Z0 : Dr × Glb) => (fun (Z1 : Pn Z0.fst Z0.snd) => (Ya (Yb hw (Ye (List.length W))) (Ya (Ya (show (List.length W + List.length AF) * nat_lit 144 ≤ 140737488355328 by simp only [maxLen]; omega) (show List.length W + List.length AF ≤ maxLen by simp only [maxLen]; omega)) (fun (Z2 : Value) => (Yk 1 bw (nx Z0.fst Z0.snd Z2 Z1))))))))))))
theorem caWrite (z : Cb) (bx who : Nat) (p : Nat) (hp : U[who]? = some (.gp p 0)) (ok : Bool) (s : Stp) (F : List Fm) (E : List Ev) (Pn : Dr → Glb → Prop) (t8 : ByteArray) (rmw : Bool)
    (ht : t8 = z.t.extract 0 (min z.t.size 8)) (hrm : rmw = decide (z.what % 4 = 1))
    (hc : ∀ Q' : T → Obs → Glb → Prop, (∀ D' gl', Pn D' gl' → Q' (.tup [.agg [.sl 34 (Row.aggs frC F), .sl 5 (Row.aggs evC E)], .agg (stC s), bool ok]) [] gl') → TCalls Try.prog 14 [.gp p 0, u8 (z.key % 6 : Nat), .agg [bool true, txt t8], bool rmw] [] gl Q')
    (nx : ∀ bo D' gl', Pn D' gl' → wRhI1 Γ Q [kRhI0 [1,1,1,1,1,1,1,0,1,0,0,1,0,0,1,1,0,1,1,1], kRhI0 [1,1,1,1,1,1,1,0,1,0,0,1,0,0,1,1,1], .blk 3, kRhI0 [1,1,1,1,1,1,1,0,1,0,0,1,1], kRhI0 [1,1,1,1,1,1,1,0,1,0], .blk 2, kRhI0 [1,1,1,1,1,1,1,1]] ⟨frame 185 [(1, .sl 5 acts), (5, int (n : Nat)), (6, .ptr 1 ba 0), (9, .ptr 0 bw 0), (10, .fn 17 [.ptr 0 bw 0, .ptr 1 ba 0]), (11, int (i : Nat)), (12, .ptr 3 bx 0), (14, .ptr 4 bo 0)], obsC bw ba U W hw ++ [(bx, .cells (cbC z)), (bo, .cells [.sl 34 (Row.aggs frC F), .sl 5 (Row.aggs evC E)])], gl'⟩) :
    wRhI1 Γ Q [kRhI0 [1,1,1,1,1,1,1,0,1,0,0,1,0,0,1,1,0,1,1], kRhI0 [1,1,1,1,1,1,1,0,1,0,0,1,0,0,1,1,1], .blk 3, kRhI0 [1,1,1,1,1,1,1,0,1,0,0,1,1], kRhI0 [1,1,1,1,1,1,1,0,1,0], .blk 2, kRhI0 [1,1,1,1,1,1,1,1]] ⟨frame 185 [(1, .sl 5 acts), (5, int (n : Nat)), (6, .ptr 1 ba 0), (9, .ptr 0 bw 0), (10, .fn 17 [.ptr 0 bw 0, .ptr 1 ba 0]), (11, int (i : Nat)), (12, .ptr 3 bx 0), (13, int (who : Nat))], obsC bw ba U W hw ++ [(bx, .cells (cbC z))], gl⟩ := by
  have e1 : U[((who : Nat) : Int).toNat]? = some (.gp p 0) := by rw [nI]; exact hp
  have r2 := remC z.key 6 .u8
  have r3 : T.v (.bool (((z.what : Int).tmod 4) == 1)) = bool rmw := congrArg (fun b => T.v (.bool b)) (by
    rw [hrm, show (z.what : Int).tmod 4 = ((z.what % 4 : Nat) : Int) from IntWalk.up_tmod rfl rfl]
    by_cases e : z.what % 4 = 1
    · rw [e]; rfl
    · rw [decide_eq_false e]; exact beq_eq_false_iff_ne.2 (by omega))
  have ht' : z.t.extract (0 : Int).toNat (if (8 : Int) < (z.t.size : Int) then (8 : Int) else (z.t.size : Int)).toNat = t8 := by
    rw [ht]
    congr 1
    split <;> omega
  have ht' : some (T.agg [T.v (.bool true), T.v (.string (z.t.extract (0 : Int).toNat (if (8 : Int) < (z.t.size : Int) then (8 : Int) else (z.t.size : Int)).toNat))]) = some (.agg [bool true, txt t8]) := by rw [ht']; rfl
  have nx2 : ∀ bs bo D' gl', Pn D' gl' → wRhI1 Γ Q [kRhI0 [1,1,1,1,1,1,1,0,1,0,0,1,0,0,1,1,0,1,1,1], kRhI0 [1,1,1,1,1,1,1,0,1,0,0,1,0,0,1,1,1], .blk 3, kRhI0 [1,1,1,1,1,1,1,0,1,0,0,1,1], kRhI0 [1,1,1,1,1,1,1,0,1,0], .blk 2, kRhI0 [1,1,1,1,1,1,1,1]] ⟨frame 185 [(1, .sl 5 acts), (5, int (n : Nat)), (6, .ptr 1 ba 0), (9, .ptr 0 bw 0), (10, .fn 17 [.ptr 0 bw 0, .ptr 1 ba 0]), (11, int (i : Nat)), (12, .ptr 3 bx 0), (14, .ptr 5 bo 0)], obsC bw ba U W hw ++ [(bx, .cells (cbC z)), (bs, .cells (stC s)), (bo, .cells [.sl 34 (Row.aggs frC F), .sl 5 (Row.aggs evC E)])], gl'⟩ := fun bs bo D' gl' h =>
    TWk.imp (nx bo D' gl' h) ((Imp.sel (ob' := obsC bw ba U W hw ++ [(bx, .cells (cbC z)), (bo, .cells [.sl 34 (Row.aggs frC F), .sl 5 (Row.aggs evC E)])]) [0,1,2,3,5] (by decide) (by kernel_rfl)).trans (Imp.slotE (j := 14) (t := .ptr 5 bo 0) (t' := .ptr 4 bo 0) (by kernel_rfl) ptrC (by kernel_rfl)))
  have nx1 : ∀ bo bs D' gl', Pn D' gl' → wRhI1 Γ Q [kRhI0 [1,1,1,1,1,1,1,0,1,0,0,1,0,0,1,1,0,1,1,1], kRhI0 [1,1,1,1,1,1,1,0,1,0,0,1,0,0,1,1,1], .blk 3, kRhI0 [1,1,1,1,1,1,1,0,1,0,0,1,1], kRhI0 [1,1,1,1,1,1,1,0,1,0], .blk 2, kRhI0 [1,1,1,1,1,1,1,1]] ⟨frame 185 [(1, .sl 5 acts), (5, int (n : Nat)), (6, .ptr 1 ba 0), (9, .ptr 0 bw 0), (10, .fn 17 [.ptr 0 bw 0, .ptr 1 ba 0]), (11, int (i : Nat)), (12, .ptr 3 bx 0), (14, .ptr 4 bo 0)], obsC bw ba U W hw ++ [(bx, .cells (cbC z)), (bo, .cells [.sl 34 (Row.aggs frC F), .sl 5 (Row.aggs evC E)]), (bs, .cells (stC s))], gl'⟩ := fun bo bs D' gl' h =>
    TWk.imp (nx bo D' gl' h) (Imp.sel [0,1,2,3,4] (by decide) (by kernel_rfl))
  clear nx
  let HH : Nat → Nat → Hint := fun | 20, 2 => .res (.gp p 0) | 20, 6 => .res (u8 (z.key % 6 : Nat)) | 20, 14 => .res (.agg [bool true, txt t8]) | 20, 18 => .res (bool rmw) | 20, 19 => .call false (Dr × Glb) (fun a => Pn a.1 a.2) [] true (fun _ => .tup [.agg [.sl 34 (Row.aggs frC F), .sl 5 (Row.aggs evC E)], .agg (stC s), bool ok]) (fun _ => []) (fun a => a.2) | _, _ => .no
  exact run_sound ⟨HH, [((0, 21), ([1,5,6,9,10,11,12,14], 6))], fun | 20 => some ⟨[1,3], [19,26,27], .take true [0,1,2,3,4,5,6,7,8,9,10,11,12,13,14,15,16,17,18] (.three 19 24 25 (.take false [20,21,22,23] (.two 24 25 (.one 25 (.one 26 (.one 27 (.take false [28] .done)))) (.one 24 (.one 26 (.one 27 (.take false [28] .done)))))) (.two 19 25 (.take false [20,21,22,23] (.one 25 (.one 26 (.one 27 (.take false [28] .done))))) (.one 19 (.take false [20,21,22,23] (.one 26 (.one 27 (.take false [28] .done)))))) (.two 19 24 (.take false [20,21,22,23] (.one 24 (.one 26 (.one 27 (.take false [28] .done))))) (.one 19 (.take false [20,21,22,23] (.one 26 (.one 27 (.take false [28] .done)))))))⟩ | n => plRhI0 n⟩ 400 (by kernel_rfl) (Yb ba (Ya (show (0 : Int) ≤ (↑who : Int) by omega) (Ya e1 (Yb bx (Yb (u8 (z.key % 6)) (Yb bx (Yb bx (Ya (Ya (show (0 : Int) ≤ (↑(0 : Nat) : Int) by omega) (Ya (show (↑(0 : Nat) : Int) ≤ (IntKind.i64, if (8 : Int) < (↑(ByteArray.size z.t) : Int) then (8 : Int) else (↑(ByteArray.size z.t) : Int)).snd by omega) (show (IntKind.i64, if (8 : Int) < (↑(ByteArray.size z.t) : Int) then (8 : Int) else (↑(ByteArray.size z.t) : Int)).snd ≤ (↑(ByteArray.size z.t) : Int) by omega))) (Ya ht' (Yb bx (Ya r3 (Ya (Ya (hc (HH 20 19).P fun D' gl' h => ⟨(D', gl'), h, rfl, rfl, Nat.zero_le _, fun _ => rfl⟩) (fun (Z0 : Dr × Glb) => (fun (Z1 : Pn Z0.fst Z0.snd) => (Ya (fun (Z2 : Nat) => (fun (Z3 : Nat) => (Yk 2 Z2 (Yk 3 Z3 (nx1 Z2 Z3 Z0.fst Z0.snd Z1))))) (fun (Z4 : Nat) => (fun (Z5 : Nat) => (Yk 2 Z5 (Yk 3 Z4 (nx2 Z4 Z5 Z0.fst Z0.snd Z1))))))))) (Ya (fun (Z6 : Nat) => (Ya (Ya (hc (HH 20 19).P fun D' gl' h => ⟨(D', gl'), h, rfl, rfl, Nat.zero_le _, fun _ => rfl⟩) (fun (Z7 : Dr × Glb) => (fun (Z8 : Pn Z7.fst Z7.snd) => (fun (Z9 : Nat) => (Yk 2 Z6 (Yk 3 Z9 (nx1 Z6 Z9 Z7.fst Z7.snd Z8))))))) (fun (Z10 : Nat) => (Ya (hc (HH 20 19).P fun D' gl' h => ⟨(D', gl'), h, rfl, rfl, Nat.zero_le _, fun _ => rfl⟩) (fun (Z11 : Dr × Glb) => (fun (Z12 : Pn Z11.fst Z11.snd) => (Yk 2 Z6 (Yk 3 Z10 (nx1 Z6 Z10 Z11.fst Z11.snd Z12))))))))) (fun (Z13 : Nat) => (Ya (Ya (hc (HH 20 19).P fun D' gl' h => ⟨(D', gl'), h, rfl, rfl, Nat.zero_le _, fun _ => rfl⟩) (fun (Z14 : Dr × Glb) => (fun (Z15 : Pn Z14.fst Z14.snd) => (fun (Z16 : Nat) => (Yk 2 Z16 (Yk 3 Z13 (nx2 Z13 Z16 Z14.fst Z14.snd Z15))))))) (fun (Z17 : Nat) => (Ya (hc (HH 20 19).P fun D' gl' h => ⟨(D', gl'), h, rfl, rfl, Nat.zero_le _, fun _ => rfl⟩) (fun (Z18 : Dr × Glb) => (fun (Z19 : Pn Z18.fst Z18.snd) => (Yk 2 Z17 (Yk 3 Z13 (nx2 Z13 Z17 Z18.fst Z18.snd Z19))))))))))))))))))))))
theorem caPut (z : Cb) (bx bo : Nat) (F E : List T) (hW : W.length ≤ 1000000) (hF : F.length ≤ 1000000)
    (nx : ∀ hw', wRhI1 Γ Q [kRhI0 [1,1,1,1,1,1,1,0,1,0,0,1,0,0,1,1,1], .blk 3, kRhI0 [1,1,1,1,1,1,1,0,1,0,0,1,1], kRhI0 [1,1,1,1,1,1,1,0,1,0], .blk 2, kRhI0 [1,1,1,1,1,1,1,1]] ⟨frame 185 [(1, .sl 5 acts), (5, int (n : Nat)), (6, .ptr 1 ba 0), (9, .ptr 0 bw 0), (10, .fn 17 [.ptr 0 bw 0, .ptr 1 ba 0]), (11, int (i : Nat)), (12, .ptr 3 bx 0)], obsC bw ba U (W ++ F) hw' ++ [(bx, .cells (cbC z))], gl⟩) :
    wRhI1 Γ Q [kRhI0 [1,1,1,1,1,1,1,0,1,0,0,1,0,0,1,1,0,1,1,1], kRhI0 [1,1,1,1,1,1,1,0,1,0,0,1,0,0,1,1,1], .blk 3, kRhI0 [1,1,1,1,1,1,1,0,1,0,0,1,1], kRhI0 [1,1,1,1,1,1,1,0,1,0], .blk 2, kRhI0 [1,1,1,1,1,1,1,1]] ⟨frame 185 [(1, .sl 5 acts), (5, int (n : Nat)), (6, .ptr 1 ba 0), (9, .ptr 0 bw 0), (10, .fn 17 [.ptr 0 bw 0, .ptr 1 ba 0]), (11, int (i : Nat)), (12, .ptr 3 bx 0), (14, .ptr 4 bo 0)], obsC bw ba U W hw ++ [(bx, .cells (cbC z)), (bo, .cells [.sl 34 F, .sl 5 E])], gl⟩ := by
  let HH : Nat → Nat → Hint := fun  | _, _ => .no
  exact run_sound ⟨HH, [((0, 22), ([1,5,6,9,10,11,12], 4))], plRhI0⟩ 400 (by kernel_rfl) (Yb bw (Yb bo (Ya (Yb hw (Ye (List.length W))) (Ya (Ya (show (List.length W + List.length F) * nat_lit 144 ≤ 140737488355328 by simp only [maxLen]; omega) (show List.length W + List.length F ≤ maxLen by simp only [maxLen]; omega)) (fun (Z0 : Value) => (Yk 1 bw (nx Z0)))))))
theorem caCome (z : Cb) (hi : i < 60) (bx : Nat) (Pn : List T → Value → Glb → Prop)
    (hc : ∀ Q' : T → Obs → Glb → Prop, (∀ W' hw' gl', Pn W' hw' gl' → Q' (.tup []) (obsC bw ba U W' hw') gl') → TCalls Try.prog 17 [int (z.ch % 8 : Nat), .ptr 0 bw 0, .ptr 1 ba 0] (obsC bw ba U W hw) gl Q')
    (nx : ∀ W' hw' gl', Pn W' hw' gl' → wRhI1 Γ Q [kRhI0 [1,1,1,1,1,1,1,0,1,0], .blk 2, kRhI0 [1,1,1,1,1,1,1,1]] ⟨frame 185 [(1, .sl 5 acts), (5, int (n : Nat)), (6, .ptr 1 ba 0), (9, .ptr 0 bw 0), (10, .fn 17 [.ptr 0 bw 0, .ptr 1 ba 0]), (11, int (i + 1 : Nat))], obsC bw ba U W' hw', gl'⟩) :
    wRhI1 Γ Q [kRhI0 [1,1,1,1,1,1,1,0,1,0,0,1,0,0,1,1,1], .blk 3, kRhI0 [1,1,1,1,1,1,1,0,1,0,0,1,1], kRhI0 [1,1,1,1,1,1,1,0,1,0], .blk 2, kRhI0 [1,1,1,1,1,1,1,1]] ⟨frame 185 [(1, .sl 5 acts), (5, int (n : Nat)), (6, .ptr 1 ba 0), (9, .ptr 0 bw 0), (10, .fn 17 [.ptr 0 bw 0, .ptr 1 ba 0]), (11, int (i : Nat)), (12, .ptr 3 bx 0)], obsC bw ba U W hw ++ [(bx, .cells (cbC z))], gl⟩ := by
  have hwi : T.v (.int .i64 (IntKind.wrap .i64 ((i : Int) + 1))) = int (i + 1 : Nat) := congrArg int (by rw [wrap_i64 (by omega) (by omega)]; omega)
  have hw1 : T.v (.int .i64 (IntKind.wrap .i64 ((z.ch : Int).tmod 8))) = int (z.ch % 8 : Nat) := congrArg int (by
    rw [show (z.ch : Int).tmod 8 = ((z.ch % 8 : Nat) : Int) from IntWalk.up_tmod rfl rfl, wrap_i64 (by omega) (by omega)])
  generalize z.ch % 8 = c at *
  let HH : Nat → Nat → Hint := fun | 22, 4 => .res (int (c : Nat)) | 22, 5 => .call false (List T × Value × Glb) (fun a => Pn a.1 a.2.1 a.2.2) [0,1,2] true (fun _ => .tup []) (fun a => obsC bw ba U a.1 a.2.1) (fun a => a.2.2) | 15, 1 => .res (int (i + 1 : Nat)) | _, _ => .no
  exact run_sound ⟨HH, [((2, 14), ([1,5,6,9,10,11], 3))], plRhI0⟩ 400 (by kernel_rfl) (Yb bx (Ya hw1 (Ya (hc (HH 22 5).P fun W' hw' gl' h => ⟨(W', hw', gl'), h, rfl, rfl, Nat.le_of_ble_eq_true rfl, fun _ => rfl⟩) (fun (Z0 : List T × Value × Glb) => (fun (Z1 : Pn Z0.fst Z0.snd.fst Z0.snd.snd) => (Ya hwi (nx Z0.fst Z0.snd.fst Z0.snd.snd Z1)))))))
end
end X20
end Go.Proofs.Ytafcbipmmjegcaa.Vm
