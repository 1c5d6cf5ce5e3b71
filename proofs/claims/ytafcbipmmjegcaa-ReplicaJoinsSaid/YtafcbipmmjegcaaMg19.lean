/- Texts of this claim: RpD, RpO. -/
import Derived.Test.YtafcbipmmjegcaaMg15
import Derived.Test.YtafcbipmmjegcaaMg18
namespace Go.Proofs.Ytafcbipmmjegcaa.Vm
open Go Go.RowKit
set_option maxRecDepth 100000
namespace X20
open Rep (Stp Wrd Cel Drv Plc RS Fm Ev)
open X5 (viewC lim othV hasV has_any others_any)
structure Dr where
 t : Nat
 g : Nat → Nat
 m : Nat → Nat
def dT (o : Option Drv) (g : Nat) : T := match o with | none => .v (.pointer none) | some _ => .gp g 0
def plC (p : Plc) (g : Nat) : List T := [u32 p.c.w.s.n, u8 p.c.w.s.b, u8 p.c.w.s.l, bool p.c.w.h, txt p.c.w.t, bool p.c.w.r, int p.c.st, dT p.dr g, int p.age]
def repC (r : RS) (D : Dr) : List T := u8 r.self :: u8 r.life :: (viewC r.v ++ (plC (r.P 0) (D.g 0) ++ (plC (r.P 1) (D.g 1) ++ (plC (r.P 2) (D.g 2) ++ (plC (r.P 3) (D.g 3) ++ (plC (r.P 4) (D.g 4) ++ (plC (r.P 5) (D.g 5) ++ [.gp D.t 0])))))))
def obsR (b : Nat) (r : RS) (D : Dr) : Obs := [(b, .cells (repC r D))]
def frC (f : Fm) : List T := [u8 f.kind, u8 f.frm, u8 f.to, u32 f.epoch, u8 f.key, u32 f.w.s.n, u8 f.w.s.b, u8 f.w.s.l, bool f.w.h, txt f.w.t, bool f.w.r, bool f.flag, u8 f.dir, u8 0, u32 0, u32 0, u8 0, u32 0, u8 0, u8 0, u8 0, u32 0, u32 0, u32 0, .v nilS, u8 0, u8 0, u8 0, u8 0, u8 0, u8 0, u8 0, u8 0, .v nilS]
def evC (e : Ev) : List T := [u8 e.key, int e.kind, u32 e.s.n, u8 e.s.b, u8 e.s.l]
def obsO (i bo : Nat) (F : List Fm) (hf : Value) (E : List Ev) (he : Value) : Obs := [(bo, .cells [.slx 34 (i + 1) (Row.aggs frC F) hf, .slx 5 (i + 2) (Row.aggs evC E) he]), (0, .room 34 70 (Row.aggs frC F).length hf), (0, .room 5 73 (Row.aggs evC E).length he)]
theorem dT_plain (o : Option Drv) (g : Nat) : noIx (dT o g) = true := by cases o <;> rfl
theorem repC_plain (r : RS) (D : Dr) : (repC r D).all noIx = true := by
 simp only [repC, viewC, X5.vwT, plC, List.cons_append, List.nil_append, List.all_cons, List.all_nil, dT_plain]
 rfl
theorem in_any (b : Nat) (r : RS) (D : Dr) (hl : lim r.v.ms) (Q : T → Obs → Glb → Prop) (hQ : Q (bool (Rep.inR r)) (obsR b r D) none_) : TCalls Try.prog 33 [.ptr 0 b 0] (obsR b r D) none_ Q := by
 refine TCalls.of Try.func33 rfl (CanCall.of Try.func33 rfl (by decide)) [0] fun Γ => ?_
 let HH : Nat → Nat → Hint := fun | 1, 15 => told (bool (Rep.inR r)) [] [] | _, _ => .no
 exact run_sound ⟨HH, [], fun | 1 => some ⟨[0], [15], .take true [0,1,2,3,4,5,6,7,8,9,10,11,12,13,14] (.one 15 (.take false [16,17] .done))⟩ | _ => none⟩ 400 (by kernel_rfl) (Yb b (Yb b (Yb b (Ya (has_any r.v r.self r.life hl (HH 1 15).P fun _ h => told_post h) (Yu hQ)))))
theorem oth_any (b : Nat) (r : RS) (D : Dr) (hl : lim r.v.ms) (Q : T → Obs → Glb → Prop) (hQ : Q (.sl 1 (X5.u8s (Rep.oth r))) (obsR b r D) none_) : TCalls Try.prog 38 [.ptr 0 b 0] (obsR b r D) none_ Q := by
 refine TCalls.of Try.func38 rfl (CanCall.of Try.func38 rfl (by decide)) [0] fun Γ => ?_
 let HH : Nat → Nat → Hint := fun | 1, 8 => told (.sl 1 (X5.u8s (Rep.oth r))) [] [] | _, _ => .no
 exact run_sound ⟨HH, [], fun | 1 => some ⟨[0], [8], .take true [0,1,2,3,4,5,6,7] (.one 8 (.take false [9] .done))⟩ | _ => none⟩ 400 (by kernel_rfl) (Yb b (Yb b (Ya (others_any r.v r.self hl (HH 1 8).P fun _ h => told_post h) (Yu hQ))))
theorem ad_w (n : Nat) : IntKind.wrap .u8 (16 + (n : Int)) = (Rep.ad n : Nat) := by
 unfold Rep.ad
 rw [IntKind.wrap_u8]
 omega
theorem frame_any (b : Nat) (r : RS) (D : Dr) (k n key : Nat) (Q : T → Obs → Glb → Prop) (hQ : Q (.agg (frC (Rep.fr r k n key))) (obsR b r D) none_) : TCalls Try.prog 40 [.ptr 0 b 0, u8 k, u8 n, u8 key] (obsR b r D) none_ Q := by
 refine TCalls.of Try.func40 rfl (CanCall.of Try.func40 rfl (by decide)) [0] fun Γ => ?_
 let HH : Nat → Nat → Hint := fun  | _, _ => .no
 exact run_sound ⟨HH, [], fun | 1 => some ⟨[0], [16], .take true [0,1,2,3,4,5,6,7,8,9,10,11,12,13,14,15] (.one 16 .done)⟩ | _ => none⟩ 400 (by kernel_rfl) (fun (Z0 : Nat) => (Yb b (Yb b (Yk 34 Z0 (Yb Z0 hQ)))))
theorem worded_any (b : Nat) (r : RS) (D : Dr) (k n key : Nat) (w : Wrd) (Q : T → Obs → Glb → Prop) (hQ : Q (.agg (frC (Rep.frW r k n key w false 0))) (obsR b r D) none_) : TCalls Try.prog 78 [.ptr 0 b 0, u8 k, u8 n, u8 key, .agg (wdC w)] (obsR b r D) none_ Q := by
 refine TCalls.of Try.func78 rfl (CanCall.of Try.func78 rfl (by decide)) [0] fun Γ => ?_
 let HH : Nat → Nat → Hint := fun | 1, 4 => .plainAt [0] (told (.agg (frC (Rep.fr r k n key))) [0] (obsR b r D)) | _, _ => .no
 exact run_sound ⟨HH, [], fun | 2 => some ⟨[1], [11], .take true [0,1,2,3,4,5,6] (.one 7 (.take true [8] (.one 9 (.take true [10] (.one 11 .done)))))⟩ | _ => none⟩ 400 (by kernel_rfl) (fun (Z0 : Nat) => (fun (Z1 : Nat) => (Ya (Ya (repC_plain r D) Yt) (Ya (frame_any b r D k n key (HH 1 4).P (told_post rfl)) (Yu (Ya (Ya (repC_plain r D) Yt) (fun (Z2 : Nat) => (Yk 34 Z2 (Yb Z0 (Yb Z0 (Yb Z0 (Yl 3 (Yb Z2 (Ya (Yn (8) (34) rfl) (Yl 2 (Yb Z2 (Ya (Yn (10) (34) rfl) (Yl 1 (Yb Z2 (Ya (Yn (11) (34) rfl) (Yb Z2 (Yk 34 Z1 (Yb Z1 hQ)))))))))))))))))))))))
theorem send_any (bo : Nat) (F : List Fm) (hf : Value) (E : List Ev) (he : Value) (l : List Fm) (hl : F.length + l.length ≤ 1000000) (Q : T → Obs → Glb → Prop) (hQ : ∀ hf', Q (.tup []) (obsO 0 bo (F ++ l) hf' E he) none_) : TCalls Try.prog 39 [.ptr 0 bo 0, .sl 34 (Row.aggs frC l)] (obsO 0 bo F hf E he) none_ Q := by
 refine TCalls.of Try.func39 rfl (CanCall.of Try.func39 rfl (by decide)) [0,1,2] fun Γ => ?_
 let HH : Nat → Nat → Hint := fun _ _ => .no
 exact run_sound ⟨HH, [], fun _ => none⟩ 400 (by kernel_rfl) (Yb bo (Ya (Yb hf (Ye (List.length (List.map (fun x => T.agg (frC x)) F)))) (Ya (Ya (show (List.length (List.map (fun x => T.agg (frC x)) F) + List.length (List.map (fun x => T.agg (frC x)) l)) * nat_lit 144 ≤ 140737488355328 by simp only [List.length_map, maxLen]; omega) (show List.length (List.map (fun x => T.agg (frC x)) F) + List.length (List.map (fun x => T.agg (frC x)) l) ≤ maxLen by simp only [List.length_map, maxLen]; omega)) (fun (Z0 : Value) => (Yl 1 (Yb bo (Ya (Yn (1) (2) rfl) (show Q (T.tup []) [(bo, Ob.cells [T.slx 34 1 (List.map (fun x => T.agg (frC x)) F ++ List.map (fun x => T.agg (frC x)) l) Z0, T.slx 5 2 (List.map (fun x => T.agg (evC x)) E) he]), (0, Ob.room 34 70 (List.length (List.map (fun x => T.agg (frC x)) F ++ List.map (fun x => T.agg (frC x)) l)) Z0), (0, Ob.room 5 73 (List.length (List.map (fun x => T.agg (evC x)) E)) he)] fun x => none by have h2 := hQ Z0; simp only [obsO, Row.aggs, List.map_append] at h2; exact h2))))))))
theorem happen_any (bo : Nat) (F : List Fm) (hf : Value) (E : List Ev) (he : Value) (key kind : Nat) (s : Stp) (hl : E.length + 1 ≤ 1000000) (Q : T → Obs → Glb → Prop) (hQ : ∀ he', Q (.tup []) (obsO 0 bo F hf (E ++ [⟨key, kind, s⟩]) he') none_) : TCalls Try.prog 83 [.ptr 0 bo 0, u8 key, int kind, .agg (stC s)] (obsO 0 bo F hf E he) none_ Q := by
 refine TCalls.of Try.func83 rfl (CanCall.of Try.func83 rfl (by decide)) [0,1,2] fun Γ => ?_
 let HH : Nat → Nat → Hint := fun  | _, _ => .no
 exact run_sound ⟨HH, [], fun | 1 => some ⟨[0,3], [10,13], .take false [0,1,2,3,5,6] (.take true [4,7,8] (.one 9 (.one 10 (.take false [11,12] (.one 13 .done)))))⟩ | _ => none⟩ 400 (by kernel_rfl) (fun (Z0 : Nat) => (Yb bo (Yb Z0 (Ya (Yb he (Ye (List.length (List.map (fun x => T.agg (evC x)) E)))) (Ya (Ya (show (List.length (List.map (fun x => T.agg (evC x)) E) + 1) * nat_lit 32 ≤ 140737488355328 by simp only [List.length_map, maxLen]; omega) (show List.length (List.map (fun x => T.agg (evC x)) E) + 1 ≤ maxLen by simp only [List.length_map, maxLen]; omega)) (fun (Z1 : Value) => (Yl 1 (Yb bo (Ya (Yn (2) (2) rfl) (show Q (T.tup []) [(bo, Ob.cells [T.slx 34 1 (List.map (fun x => T.agg (frC x)) F) hf, T.slx 5 2 (List.map (fun x => T.agg (evC x)) E ++ [T.agg [u8 key, int kind, u32 s.n, u8 s.b, u8 s.l]]) Z1]), (0, Ob.room 34 70 (List.length (List.map (fun x => T.agg (frC x)) F)) hf), (0, Ob.room 5 73 (List.length (List.map (fun x => T.agg (evC x)) E ++ [T.agg [u8 key, int kind, u32 s.n, u8 s.b, u8 s.l]])) Z1)] fun x => none by have h2 := hQ Z1; simp only [obsO, Row.aggs, List.map_append, List.map_cons, List.map_nil] at h2; exact h2))))))))))
end X20
end Go.Proofs.Ytafcbipmmjegcaa.Vm
namespace Go.Proofs.Ytafcbipmmjegcaa.Vm
open Go Go.RowKit
namespace X20
open Rep (Stp Wrd Cel Drv Plc RS Fm Ev put setP)
structure Own (D : Dr) (r : RS) (gl : Glb) : Prop where
 tr : gl D.t = some (.cells (trC r.has r.calls))
 dr : ∀ k, k < 6 → ∀ d, (r.P k).dr = some d → Lies gl (D.g k) (D.m k) d
 tg : ∀ k, k < 6 → (r.P k).dr.isSome = true → D.g k ≠ D.t
 gg : ∀ j k, j < 6 → k < 6 → (r.P j).dr.isSome = true → (r.P k).dr.isSome = true → j ≠ k → D.g j ≠ D.g k
 mm : ∀ j k, j < 6 → k < 6 → (r.P j).dr.isSome = true → (r.P k).dr.isSome = true → j ≠ k → D.m j ≠ D.m k
def In_ (D : Dr) (r : RS) (b : Nat) : Prop := b = D.t ∨ ∃ k, k < 6 ∧ (r.P k).dr.isSome = true ∧ (b = D.g k ∨ b = D.m k)
structure Step (gl : Glb) (D : Dr) (r : RS) (gl' : Glb) (D' : Dr) (r' : RS) : Prop where
 keep : ∀ b, ¬ In_ D r b → gl b ≠ none → gl' b = gl b
 new : ∀ b, In_ D' r' b → In_ D r b ∨ gl b = none
theorem Step.refl (gl : Glb) (D : Dr) (r : RS) : Step gl D r gl D r := ⟨fun _ _ _ => rfl, fun _ h => .inl h⟩
theorem Step.trans {gl gl' gl2 : Glb} {D D' D2 : Dr} {r r' r2 : RS} (h : Step gl D r gl' D' r') (h' : Step gl' D' r' gl2 D2 r2) : Step gl D r gl2 D2 r2 := by
 refine ⟨fun b hb hn => ?_, fun b hb => ?_⟩
 ·have e := h.keep b hb hn
  rw [← e] at hn
  have : ¬ In_ D' r' b := fun hi => by
   rcases h.new b hi with h1 | h1
   ·exact hb h1
   ·exact hn (e.trans h1)
  exact (h'.keep b this hn).trans e
 ·rcases h'.new b hb with h1 | h1
  ·exact h.new b h1
  ·by_cases hi : In_ D r b
   ·exact .inl hi
   ·refine .inr (Classical.byContradiction fun hn => ?_)
    have := h.keep b hi hn
    exact hn (this ▸ h1)
theorem Step.other {gl gl' : Glb} {D D' D2 : Dr} {r r' r2 : RS} (h : Step gl D r gl' D' r') (ho : Own D2 r2 gl) (ha : ∀ b, In_ D r b → ¬ In_ D2 r2 b) : Own D2 r2 gl' ∧ ∀ b, In_ D' r' b → ¬ In_ D2 r2 b := by
 have hk : ∀ b, In_ D2 r2 b → gl b ≠ none → gl' b = gl b := fun b hb hn => h.keep b (fun hi => ha b hi hb) hn
 have hin : ∀ b, In_ D2 r2 b → gl b ≠ none := fun b hb => by
  rcases hb with rfl | ⟨k, hk, hs, hb⟩
  ·rw [ho.tr]; simp
  ·obtain ⟨d, hd⟩ := Option.isSome_iff_exists.1 hs
   obtain ⟨h1, es, ck, h2⟩ := ho.dr k hk d hd
   rcases hb with rfl|rfl
   ·rw [h1]; simp
   ·rw [h2]; simp
 refine ⟨⟨?_, fun k hk6 d hd => ?_, ho.tg, ho.gg, ho.mm⟩, fun b hb hb2 => ?_⟩
 ·rw [hk _ (.inl rfl) (hin _ (.inl rfl))]; exact ho.tr
 ·have hs : (r2.P k).dr.isSome = true := by rw [hd]; rfl
  obtain ⟨h1, es, ck, h2⟩ := ho.dr k hk6 d hd
  have i1 : In_ D2 r2 (D2.g k) := .inr ⟨k, hk6, hs, .inl rfl⟩
  have i2 : In_ D2 r2 (D2.m k) := .inr ⟨k, hk6, hs, .inr rfl⟩
  exact ⟨(hk _ i1 (hin _ i1)).trans h1, es, ck, (hk _ i2 (hin _ i2)).trans h2⟩
 ·rcases h.new b hb with h1 | h1
  ·exact ha b h1 hb2
  ·exact hin b hb2 h1
theorem lies_mt {gl : Glb} {b g m : Nat} {d : Drv} {cs : List T} (h : Lies gl g m d) (hb : gl b = some (.cells cs)) : m ≠ b := fun e => by
 obtain ⟨-, es, ck, h2⟩ := h
 rw [e, hb] at h2
 cases h2
theorem lies_gm {gl : Glb} {g m g' m' : Nat} {d d' : Drv} (h : Lies gl g m d) (h' : Lies gl g' m' d') : g ≠ m' := fun e => by
 obtain ⟨-, es, ck, h2⟩ := h'
 rw [← e, h.1] at h2
 cases h2
theorem lies_set (gl : Glb) {g m : Nat} (d : Drv) (es : Array MapEntry) (ck : Nat) (h : g ≠ m) : Lies (setDr gl g m d es ck) g m d := by
 refine ⟨setO_at _ _ _, es, ck, ?_⟩
 unfold setDr
 rw [setO_ne _ _ h.symm, setO_at]
theorem setDr_ne (gl : Glb) {g m b : Nat} (d : Drv) (es : Array MapEntry) (ck : Nat) (h1 : b ≠ g) (h2 : b ≠ m) : setDr gl g m d es ck b = gl b := by
 unfold setDr
 rw [setO_ne _ _ h1, setO_ne _ _ h2]
theorem P_at (r : RS) (k : Nat) (p : Plc) : (setP r k p).P k = p := Rep.put_at _ _ _
theorem P_ne (r : RS) (k : Nat) (p : Plc) {j : Nat} (h : j ≠ k) : (setP r k p).P j = r.P j := Rep.put_ne _ _ _ h
section
variable {D : Dr} {r : RS} {gl : Glb}
theorem Own.same (h : Own D r gl) (k : Nat) (p : Plc) (hp : p.dr = (r.P k).dr) : Own D (setP r k p) gl ∧ Step gl D r gl D (setP r k p) := by
 have e : ∀ j, ((setP r k p).P j).dr = (r.P j).dr := fun j => by
  by_cases hj : j = k
  ·subst hj; rw [P_at, hp]
  ·rw [P_ne _ _ _ hj]
 refine ⟨⟨h.tr, fun j hj d hd => h.dr j hj d (by rw [← e]; exact hd), fun j hj hs => h.tg j hj (by rw [← e]; exact hs), fun i j hi hj h1 h2 => h.gg i j hi hj (by rw [← e]; exact h1) (by rw [← e]; exact h2), fun i j hi hj h1 h2 => h.mm i j hi hj (by rw [← e]; exact h1) (by rw [← e]; exact h2)⟩, fun _ _ _ => rfl, fun b hb => .inl ?_⟩
 rcases hb with rfl | ⟨j, hj, hs, hb⟩
 ·exact .inl rfl
 ·exact .inr ⟨j, hj, by rw [← e]; exact hs, hb⟩
theorem Own.drop (h : Own D r gl) (k : Nat) (p : Plc) (hp : p.dr = none) : Own D (setP r k p) gl ∧ Step gl D r gl D (setP r k p) := by
 have e : ∀ j d, ((setP r k p).P j).dr = some d → (r.P j).dr = some d := fun j d hd => by
  by_cases hj : j = k
  ·subst hj; rw [P_at, hp] at hd; cases hd
  ·rw [P_ne _ _ _ hj] at hd; exact hd
 have e2 : ∀ j, ((setP r k p).P j).dr.isSome = true → (r.P j).dr.isSome = true := fun j hj => by
  obtain ⟨d, hd⟩ := Option.isSome_iff_exists.1 hj
  rw [e j d hd]; rfl
 refine ⟨⟨h.tr, fun j hj d hd => h.dr j hj d (e j d hd), fun j hj hs => h.tg j hj (e2 j hs), fun i j hi hj h1 h2 => h.gg i j hi hj (e2 i h1) (e2 j h2), fun i j hi hj h1 h2 => h.mm i j hi hj (e2 i h1) (e2 j h2)⟩, fun _ _ _ => rfl, fun b hb => .inl ?_⟩
 rcases hb with rfl | ⟨j, hj, hs, hb⟩
 ·exact .inl rfl
 ·exact .inr ⟨j, hj, e2 j hs, hb⟩
theorem Own.turn (h : Own D r gl) {k : Nat} (hk : k < 6) {d : Drv} (hd : (r.P k).dr = some d) (p : Plc) (d' : Drv) (hp : p.dr = some d') (m : Nat) (es : Array MapEntry) (ck : Nat) (hm : m = D.m k ∨ gl m = none) :
  Own { D with m := put D.m k m } (setP r k p) (setDr gl (D.g k) m d' es ck) ∧ Step gl D r (setDr gl (D.g k) m d' es ck) { D with m := put D.m k m } (setP r k p) := by
 have hs : (r.P k).dr.isSome = true := by rw [hd]; rfl
 have hl := h.dr k hk d hd
 have hgm : D.g k ≠ m := by
  rcases hm with rfl | hm
  ·exact hl.ne
  ·intro e; rw [← e, hl.1] at hm; cases hm
 have e : ∀ j, j ≠ k → ((setP r k p).P j).dr = (r.P j).dr := fun j hj => by rw [P_ne _ _ _ hj]
 have ek : ((setP r k p).P k).dr = some d' := by rw [P_at, hp]
 have es_ : ∀ j, ((setP r k p).P j).dr.isSome = true → (r.P j).dr.isSome = true := fun j hj => by
  by_cases hjk : j = k
  ·subst hjk; exact hs
  ·rw [e j hjk] at hj; exact hj
 have some_at : ∀ b, In_ D r b → gl b ≠ none := fun b hb => by
  rcases hb with rfl | ⟨j, hj, hs, hb⟩
  ·rw [h.tr]; simp
  ·obtain ⟨x, hx⟩ := Option.isSome_iff_exists.1 hs
   obtain ⟨h1, es, ck, h2⟩ := h.dr j hj x hx
   rcases hb with rfl|rfl
   ·rw [h1]; simp
   ·rw [h2]; simp
 have hmne : ∀ b, In_ D r b → b ≠ D.m k → b ≠ m := fun b hb hb2 e => by
  rcases hm with hm | hm
  ·exact hb2 (e.trans hm)
  ·exact some_at b hb (e ▸ hm)
 have gne : ∀ j, j < 6 → j ≠ k → (r.P j).dr.isSome = true → D.g j ≠ m := fun j hj hjk hjs => by
  obtain ⟨x, hx⟩ := Option.isSome_iff_exists.1 hjs
  exact hmne _ (.inr ⟨j, hj, hjs, .inl rfl⟩) (lies_gm (h.dr j hj x hx) hl)
 have mne : ∀ j, j < 6 → j ≠ k → (r.P j).dr.isSome = true → D.m j ≠ m := fun j hj hjk hjs => hmne _ (.inr ⟨j, hj, hjs, .inr rfl⟩) (h.mm j k hj hk hjs hs hjk)
 have tne : D.t ≠ m := hmne _ (.inl rfl) (lies_mt hl h.tr).symm
 refine ⟨⟨?_, fun j hj x hx => ?_, fun j hj hjs => h.tg j hj (es_ j hjs), fun i j hi hj h1 h2 => h.gg i j hi hj (es_ i h1) (es_ j h2), fun i j hi hj h1 h2 hij => ?_⟩, fun b hb _ => ?_, fun b hb => ?_⟩
 ·rw [setDr_ne _ _ _ _ (h.tg k hk hs).symm tne]; exact h.tr
 ·by_cases hjk : j = k
  ·subst hjk
   rw [ek] at hx
   injection hx with hx
   subst hx
   have : put D.m j m j = m := Rep.put_at _ _ _
   rw [show ({ D with m := put D.m j m } : Dr).m j = m from this]
   exact lies_set gl d' es ck hgm
  ·rw [e j hjk] at hx
   have hjs : (r.P j).dr.isSome = true := by rw [hx]; rfl
   obtain ⟨h1, es', ck', h2⟩ := h.dr j hj x hx
   rw [show ({ D with m := put D.m k m } : Dr).m j = D.m j from Rep.put_ne _ _ _ hjk]
   refine ⟨?_, es', ck', ?_⟩
   ·rw [setDr_ne _ _ _ _ (h.gg j k hj hk hjs hs hjk) (gne j hj hjk hjs)]; exact h1
   ·rw [setDr_ne _ _ _ _ (lies_gm hl (h.dr j hj x hx)).symm (mne j hj hjk hjs)]; exact h2
 ·have i1 := es_ i h1
  have i2 := es_ j h2
  by_cases hik : i = k
  ·subst hik
   rw [show ({ D with m := put D.m i m } : Dr).m i = m from Rep.put_at _ _ _, show ({ D with m := put D.m i m } : Dr).m j = D.m j from Rep.put_ne _ _ _ (Ne.symm hij)]
   exact (mne j hj (Ne.symm hij) i2).symm
  ·rw [show ({ D with m := put D.m k m } : Dr).m i = D.m i from Rep.put_ne _ _ _ hik]
   by_cases hjk : j = k
   ·subst hjk
    rw [show ({ D with m := put D.m j m } : Dr).m j = m from Rep.put_at _ _ _]
    exact mne i hi hik i1
   ·rw [show ({ D with m := put D.m k m } : Dr).m j = D.m j from Rep.put_ne _ _ _ hjk]
    exact h.mm i j hi hj i1 i2 hij
 ·refine setDr_ne _ _ _ _ (fun e => hb (.inr ⟨k, hk, hs, .inl e⟩)) (fun e => ?_)
  rcases hm with hm | hm
  ·exact hb (.inr ⟨k, hk, hs, .inr (e.trans hm)⟩)
  ·rename_i hn; exact hn (e ▸ hm)
 ·rcases hb with rfl | ⟨j, hj, hjs, hb⟩
  ·exact .inl (.inl rfl)
  ·have hjo := es_ j hjs
   rcases hb with rfl | hb
   ·exact .inl (.inr ⟨j, hj, hjo, .inl rfl⟩)
   ·by_cases hjk : j = k
    ·subst hjk
     rw [show ({ D with m := put D.m j m } : Dr).m j = m from Rep.put_at _ _ _] at hb
     rcases hm with hm | hm
     ·exact .inl (.inr ⟨j, hj, hjo, .inr (hb.trans hm)⟩)
     ·exact .inr (hb ▸ hm)
    ·rw [show ({ D with m := put D.m k m } : Dr).m j = D.m j from Rep.put_ne _ _ _ hjk] at hb
     exact .inl (.inr ⟨j, hj, hjo, .inr hb⟩)
theorem Own.new (h : Own D r gl) {k : Nat} (hk : k < 6) (p : Plc) (d : Drv) (hp : p.dr = some d) (g m : Nat) (es : Array MapEntry) (ck : Nat) (hg : gl g = none) (hm : gl m = none) (hgm : g ≠ m) :
  Own { D with g := put D.g k g, m := put D.m k m } (setP r k p) (setDr gl g m d es ck) ∧ Step gl D r (setDr gl g m d es ck) { D with g := put D.g k g, m := put D.m k m } (setP r k p) := by
 have e : ∀ j, j ≠ k → ((setP r k p).P j).dr = (r.P j).dr := fun j hj => by rw [P_ne _ _ _ hj]
 have ek : ((setP r k p).P k).dr = some d := by rw [P_at, hp]
 have some_at : ∀ b, In_ D r b → gl b ≠ none := fun b hb => by
  rcases hb with rfl | ⟨j, hj, hs, hb⟩
  ·rw [h.tr]; simp
  ·obtain ⟨x, hx⟩ := Option.isSome_iff_exists.1 hs
   obtain ⟨h1, es, ck, h2⟩ := h.dr j hj x hx
   rcases hb with rfl|rfl
   ·rw [h1]; simp
   ·rw [h2]; simp
 have ng : ∀ b, In_ D r b → b ≠ g := fun b hb e => some_at b hb (e ▸ hg)
 have nm : ∀ b, In_ D r b → b ≠ m := fun b hb e => some_at b hb (e ▸ hm)
 have gk : ({ D with g := put D.g k g, m := put D.m k m } : Dr).g k = g := Rep.put_at _ _ _
 have mk : ({ D with g := put D.g k g, m := put D.m k m } : Dr).m k = m := Rep.put_at _ _ _
 have gj : ∀ j, j ≠ k → ({ D with g := put D.g k g, m := put D.m k m } : Dr).g j = D.g j := fun j hj => Rep.put_ne _ _ _ hj
 have mj : ∀ j, j ≠ k → ({ D with g := put D.g k g, m := put D.m k m } : Dr).m j = D.m j := fun j hj => Rep.put_ne _ _ _ hj
 have ig : ∀ j, j < 6 → (r.P j).dr.isSome = true → In_ D r (D.g j) := fun j hj hs => .inr ⟨j, hj, hs, .inl rfl⟩
 have im : ∀ j, j < 6 → (r.P j).dr.isSome = true → In_ D r (D.m j) := fun j hj hs => .inr ⟨j, hj, hs, .inr rfl⟩
 have it : In_ D r D.t := .inl rfl
 refine ⟨⟨?_, fun j hj x hx => ?_, fun j hj hjs => ?_, fun i j hi hj h1 h2 hij => ?_, fun i j hi hj h1 h2 hij => ?_⟩, fun b hb hn => ?_, fun b hb => ?_⟩
 ·rw [setDr_ne _ _ _ _ (ng _ it) (nm _ it)]; exact h.tr
 ·by_cases hjk : j = k
  ·subst hjk
   rw [ek] at hx
   injection hx with hx
   subst hx
   rw [gk, mk]
   exact lies_set gl d es ck hgm
  ·rw [e j hjk] at hx
   have hjs : (r.P j).dr.isSome = true := by rw [hx]; rfl
   obtain ⟨h1, es', ck', h2⟩ := h.dr j hj x hx
   rw [gj j hjk, mj j hjk]
   refine ⟨?_, es', ck', ?_⟩
   ·rw [setDr_ne _ _ _ _ (ng _ (ig j hj hjs)) (nm _ (ig j hj hjs))]; exact h1
   ·rw [setDr_ne _ _ _ _ (ng _ (im j hj hjs)) (nm _ (im j hj hjs))]; exact h2
 ·by_cases hjk : j = k
  ·subst hjk; rw [gk]; exact (ng _ it).symm
  ·rw [e j hjk] at hjs; rw [gj j hjk]; exact h.tg j hj hjs
 ·by_cases hik : i = k
  ·subst hik
   rw [e j (Ne.symm hij)] at h2
   rw [gk, gj j (Ne.symm hij)]; exact (ng _ (ig j hj h2)).symm
  ·rw [e i hik] at h1
   by_cases hjk : j = k
   ·subst hjk; rw [gk, gj i hij]; exact ng _ (ig i hi h1)
   ·rw [e j hjk] at h2; rw [gj i hik, gj j hjk]; exact h.gg i j hi hj h1 h2 hij
 ·by_cases hik : i = k
  ·subst hik
   rw [e j (Ne.symm hij)] at h2
   rw [mk, mj j (Ne.symm hij)]; exact (nm _ (im j hj h2)).symm
  ·rw [e i hik] at h1
   by_cases hjk : j = k
   ·subst hjk; rw [mk, mj i hij]; exact nm _ (im i hi h1)
   ·rw [e j hjk] at h2; rw [mj i hik, mj j hjk]; exact h.mm i j hi hj h1 h2 hij
 ·exact setDr_ne _ _ _ _ (fun e => hn (e ▸ hg)) (fun e => hn (e ▸ hm))
 ·rcases hb with rfl | ⟨j, hj, hjs, hb⟩
  ·exact .inl it
  ·by_cases hjk : j = k
   ·subst hjk
    rw [gk, mk] at hb
    rcases hb with rfl|rfl
    ·exact .inr hg
    ·exact .inr hm
   ·rw [e j hjk] at hjs
    rw [gj j hjk, mj j hjk] at hb
    exact .inl (.inr ⟨j, hj, hjs, hb⟩)
theorem Own.trans_ (h : Own D r gl) (h' : Nat → Bool) (c' : Nat) : Own D { r with has := h', calls := c' } (setO gl D.t (.cells (trC h' c'))) ∧ Step gl D r (setO gl D.t (.cells (trC h' c'))) D { r with has := h', calls := c' } := by
 refine ⟨⟨setO_at _ _ _, fun j hj x hx => ?_, h.tg, h.gg, h.mm⟩, fun b hb _ => setO_ne _ _ fun e => hb (.inl e), fun b hb => .inl hb⟩
 have hjs : (r.P j).dr.isSome = true := by
  have : (r.P j).dr = some x := hx
  rw [this]; rfl
 have hl := h.dr j hj x hx
 obtain ⟨h1, es', ck', h2⟩ := hl
 refine ⟨?_, es', ck', ?_⟩
 ·rw [setO_ne _ _ (h.tg j hj hjs)]; exact h1
 ·rw [setO_ne _ _ (lies_mt (h.dr j hj x hx) h.tr)]; exact h2
theorem Own.view (h : Own D r gl) (v : View.VS) : Own D { r with v := v } gl ∧ Step gl D r gl D { r with v := v } := ⟨⟨h.tr, h.dr, h.tg, h.gg, h.mm⟩, fun _ _ _ => rfl, fun _ hb => .inl hb⟩
end
end X20
end Go.Proofs.Ytafcbipmmjegcaa.Vm
