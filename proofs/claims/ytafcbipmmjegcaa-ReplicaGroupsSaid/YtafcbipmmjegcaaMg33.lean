/- Texts of this claim: RgQ, RgR. -/
import Derived.Test.YtafcbipmmjegcaaMg15
import Derived.Test.YtafcbipmmjegcaaMg32
namespace Go.Proofs.Ytafcbipmmjegcaa.Vm
open Go Go.RowKit
set_option maxRecDepth 100000
noncomputable abbrev kRgQ0 (l : List Nat) : It := .code (sub (bd Try.f3) l)
noncomputable abbrev wRgQ1 (Γ : Ctx) (Q : T → Obs → Glb → Prop) : List It → S → Prop := TWk Try.prog Γ (fin Try.prog Try.f3 [] Q)
def plRgQ0 : Nat → Option RPlan := fun | 32 => some ⟨[], [0, 4, 9], .take false [1,2,3,5,6,7,8] (.one 0 (.one 4 (.one 9 (.take false [10] .done))))⟩ | 35 => some ⟨[], [5, 6], .take true [0,1,2,3,4] (.one 5 (.one 6 .done))⟩ | 41 => some ⟨[], [17, 24, 25], .take true [0,1,2,3,4,5,6,7,8,9,10,11,12,13,14,15,16] (.three 17 22 23 (.take false [18,19,20,21] (.two 22 23 (.one 23 (.one 24 (.one 25 (.take false [26] .done)))) (.one 22 (.one 24 (.one 25 (.take false [26] .done)))))) (.two 17 23 (.take false [18,19,20,21] (.one 23 (.one 24 (.one 25 (.take false [26] .done))))) (.one 17 (.take false [18,19,20,21] (.one 24 (.one 25 (.take false [26] .done)))))) (.two 17 22 (.take false [18,19,20,21] (.one 22 (.one 24 (.one 25 (.take false [26] .done))))) (.one 17 (.take false [18,19,20,21] (.one 24 (.one 25 (.take false [26] .done)))))))⟩ | 43 => some ⟨[], [7], .take true [0,1,2,3,4,5,6] (.one 7 .done)⟩ | 53 => some ⟨[], [11], .take true [0,1,2,3,4,5,6,7] (.one 8 (.one 9 (.take true [10] (.one 11 .done))))⟩ | 61 => some ⟨[], [20], .take true [0,1,2,3,4,5,6,7,8,9,10,11,12,13,14,15,16] (.one 17 (.one 18 (.take true [19] (.one 20 .done))))⟩ | 62 => some ⟨[], [4], .take true [0,1,2,3] (.one 4 (.take false [5] .done))⟩ | _ => none
namespace X20
open Rep (Stp Wrd Cel Drv Plc RS Fm Ev put)
def kS (s : Stp) : Value := .agg #[.int .u32 s.n, .int .u8 s.b, .int .u8 s.l]
def GK (v : Value) : Prop := ∃ a b c : Int, v = .agg #[.int .u32 a, .int .u8 b, .int .u8 c]
abbrev kt : TypeId := 51
theorem keyOk : KeyOk Try.prog kt GK where
  td := ⟨_, Try.underlying51, rfl⟩
  eq := fun x y ⟨a, b, c, hx⟩ ⟨d, e, f, hy⟩ => by
    subst hx hy
    refine ⟨((a == d) && ((b == e) && true)) && ((c == f) && true), by kernel_rfl, ?_⟩
    simp [and_assoc]
  ck := fun x ⟨a, b, c, hx⟩ e w => by
    subst hx
    exact prun_run (by cases e <;> kernel_rfl) w
  same := fun x ⟨a, b, c, hx⟩ => by
    subst hx
    simp [Instr.sameBits]
def kF (A : Stp → Option Stp) : Value → Option T
  | .agg ⟨[.int .u32 a, .int .u8 b, .int .u8 c]⟩ => if 0 ≤ a ∧ 0 ≤ b ∧ 0 ≤ c then (A ⟨a.toNat, b.toNat, c.toNat⟩).map fun s => .agg (stC s) else none
  | _ => none
theorem kF_at (A : Stp → Option Stp) (s : Stp) : kF A (kS s) = (A s).map fun s => .agg (stC s) := by
  show (if 0 ≤ (s.n : Int) ∧ 0 ≤ (s.b : Int) ∧ 0 ≤ (s.l : Int) then (A ⟨(s.n : Int).toNat, (s.b : Int).toNat, (s.l : Int).toNat⟩).map _ else none) = _
  rw [if_pos ⟨Int.natCast_nonneg _, Int.natCast_nonneg _, Int.natCast_nonneg _⟩, Int.toNat_natCast, Int.toNat_natCast, Int.toNat_natCast]
theorem kF_upd (A : Stp → Option Stp) (s c : Stp) : UpdK (kF (upS A s c)) (kF A) (kS s) (.agg (stC c)) := by
  refine ⟨?_, fun z hz => ?_⟩
  · rw [kF_at]
    unfold upS
    rw [if_pos rfl]; rfl
  · unfold kF
    split
    · rename_i a b d
      by_cases h0 : 0 ≤ a ∧ 0 ≤ b ∧ 0 ≤ d
      · rw [if_pos h0, if_pos h0]
        unfold upS
        rw [if_neg]
        rintro rfl
        apply hz
        unfold kS
        dsimp only
        rw [Int.toNat_of_nonneg h0.1, Int.toNat_of_nonneg h0.2.1, Int.toNat_of_nonneg h0.2.2]
      · rw [if_neg h0, if_neg h0]
    · rfl
theorem hasK (s : Stp) : HasK GK (kS s) := ⟨s.n, s.b, s.l, rfl⟩
def noA : Stp → Option Stp := fun _ => none
structure Ca where
  what : Nat
  node : Nat
  key : Nat
  t : ByteArray
  ch : Nat
def caC (z : Ca) : List T := [u8 z.what, u8 z.node, u8 z.key, txt z.t, .v (.int .u16 z.ch)]
def obsG (qd qa qo : Nat) (x y : Bz) (W : List T) (hw : Value) (qb : Nat) (M : Nat → Nat) (A0 A1 : Stp → Option Stp) : Obs := obsS qd qa qo x y ++
  [(0, .room 34 70 W.length hw), (qb, .cells [.mp 11 (M 0), .mp 12 (M 1), .mp 13 (M 2), .mp 14 (M 3), .mp 15 (M 4), .mp 16 (M 5)]), (M 0, .kv kt GK (kF A0)), (M 1, .kv kt GK (kF A1)), (M 2, .kv kt GK (kF noA)), (M 3, .kv kt GK (kF noA)), (M 4, .kv kt GK (kF noA)), (M 5, .kv kt GK (kF noA))]
theorem kdef {p : Prop} (h : p) : p := h
theorem sufE {l : Nat} (W : List T) {x v : Value} (h : sufV 34 l x = v) : some (T.slx 34 9 (W.drop l) (sufV 34 l x)) = some (T.slx 34 9 (W.drop l) v) := by rw [h]
theorem remN (w d : Nat) (k : IntKind) : T.v (.int k ((w : Int).tmod (d : Nat))) = T.v (.int k (w % d : Nat)) := congrArg (fun z => T.v (.int k z)) (IntWalk.up_tmod rfl rfl)
section
variable (Γ : Ctx) (qd qa qo qb : Nat) (M : Nat → Nat) (acts U : List T) (n i : Nat) (W : List T) (hw : Value) (A0 A1 : Stp → Option Stp) (x y : Bz) (gl : Glb) (Q : T → Obs → Glb → Prop)
theorem gpTick (z : Ca) (hz : z.what % 8 = 0) (bx bo who key : Nat) (p : Nat) (hp : U[who]? = some (.gp p 0)) (F : List Fm) (E : List Ev) (Pn : Dr → Glb → Prop)
    (hc : ∀ Q' : T → Obs → Glb → Prop, (∀ D' gl', Pn D' gl' → Q' (outT F E) [] gl') → TCalls Try.prog 12 [.gp p 0, int 1, int 2, bool true] [] gl Q')
    (nx : ∀ D' gl', Pn D' gl' → wRgQ1 Γ Q [kRgQ0 [1,1,1,1,1,1,1,1,1,1,1,0,1,0,0,1,0,0,1,1,1,1,1], .blk 5, kRgQ0 [1,1,1,1,1,1,1,1,1,1,1,0,1,0,0,1,1], kRgQ0 [1,1,1,1,1,1,1,1,1,1,1,0,1,0], .blk 4, kRgQ0 [1,1,1,1,1,1,1,1,1,1,1,1]] ⟨frame 297 [(1, .sl 5 acts), (5, int n), (6, .sl 1 U), (9, .slx 34 9 W hw), (10, .ptr 10 qb 0), (11, .ptr 0 qd 0), (12, .ptr 1 qa 0), (13, .ptr 2 qo 0), (15, int (i : Nat)), (19, .ptr 18 bo 0)], obsG qd qa qo x y W hw qb M A0 A1 ++ [(bx, .cells (caC z)), (bo, .cells [.sl 34 (Row.aggs frC F), .sl 5 (Row.aggs evC E)])], gl'⟩) :
    wRgQ1 Γ Q [kRgQ0 [1,1,1,1,1,1,1,1,1,1,1,0,1,0,0,1,0,0,1,1,1,1], .blk 5, kRgQ0 [1,1,1,1,1,1,1,1,1,1,1,0,1,0,0,1,1], kRgQ0 [1,1,1,1,1,1,1,1,1,1,1,0,1,0], .blk 4, kRgQ0 [1,1,1,1,1,1,1,1,1,1,1,1]] ⟨frame 297 [(1, .sl 5 acts), (5, int n), (6, .sl 1 U), (9, .slx 34 9 W hw), (10, .ptr 10 qb 0), (11, .ptr 0 qd 0), (12, .ptr 1 qa 0), (13, .ptr 2 qo 0), (15, int (i : Nat)), (16, .ptr 17 bx 0), (17, int who), (18, u8 key), (19, .ptr 18 bo 0)], obsG qd qa qo x y W hw qb M A0 A1 ++ [(bx, .cells (caC z)), (bo, .cells [.v nilS, .v nilS])], gl⟩ := by
  have e1 : U[((who : Nat) : Int).toNat]? = some (.gp p 0) := by rw [ni]; exact hp
  have hrem := remN z.what 8 .u8
  rw [hz] at hrem
  let HH : Nat → Nat → Hint := fun | 27, 2 => .res (u8 0) | 37, 2 => .res (.gp p 0) | 37, 4 => .call false (Dr × Glb) (fun a => Pn a.1 a.2) [] true (fun _ => outT F E) (fun _ => []) (fun a => a.2) | _, _ => .no
  exact run_sound ⟨HH, [((0, 45), ([1,5,6,9,10,11,12,13,15,19], 19))], plRgQ0⟩ 400 (by kernel_rfl) (Yb bx (Ya hrem (Ya (show (0 : Int) ≤ (↑who : Int) by omega) (Ya e1 (Ya (hc (HH 37 4).P fun D' gl' h => ⟨(D', gl'), h, rfl, rfl, Nat.zero_le _, fun _ => rfl⟩) (fun (Z0 : Dr × Glb) => (fun (Z1 : Pn Z0.fst Z0.snd) => (Yk 2 bo (nx Z0.fst Z0.snd Z1)))))))))
theorem gp45 (z : Ca) (bx bo : Nat) (F E : List T) (hl : W.length + F.length ≤ 1000000)
    (nx : ∀ hw', wRgQ1 Γ Q [kRgQ0 [1,1,1,1,1,1,1,1,1,1,1,0,1,0,0,1,0,0,1,1,1,1,1,1], .blk 5, kRgQ0 [1,1,1,1,1,1,1,1,1,1,1,0,1,0,0,1,1], kRgQ0 [1,1,1,1,1,1,1,1,1,1,1,0,1,0], .blk 4, kRgQ0 [1,1,1,1,1,1,1,1,1,1,1,1]] ⟨frame 297 [(1, .sl 5 acts), (5, int n), (6, .sl 1 U), (9, .slx 34 9 (W ++ F) hw'), (10, .ptr 10 qb 0), (11, .ptr 0 qd 0), (12, .ptr 1 qa 0), (13, .ptr 2 qo 0), (15, int (i : Nat)), (19, .ptr 18 bo 0)], obsG qd qa qo x y (W ++ F) hw' qb M A0 A1 ++ [(bx, .cells (caC z)), (bo, .cells [.sl 34 F, .sl 5 E])], gl⟩) :
    wRgQ1 Γ Q [kRgQ0 [1,1,1,1,1,1,1,1,1,1,1,0,1,0,0,1,0,0,1,1,1,1,1], .blk 5, kRgQ0 [1,1,1,1,1,1,1,1,1,1,1,0,1,0,0,1,1], kRgQ0 [1,1,1,1,1,1,1,1,1,1,1,0,1,0], .blk 4, kRgQ0 [1,1,1,1,1,1,1,1,1,1,1,1]] ⟨frame 297 [(1, .sl 5 acts), (5, int n), (6, .sl 1 U), (9, .slx 34 9 W hw), (10, .ptr 10 qb 0), (11, .ptr 0 qd 0), (12, .ptr 1 qa 0), (13, .ptr 2 qo 0), (15, int (i : Nat)), (19, .ptr 18 bo 0)], obsG qd qa qo x y W hw qb M A0 A1 ++ [(bx, .cells (caC z)), (bo, .cells [.sl 34 F, .sl 5 E])], gl⟩ := by
  let HH : Nat → Nat → Hint := fun  | _, _ => .no
  exact run_sound ⟨HH, [((0, 46), ([1,5,6,9,10,11,12,13,15,19], 19))], plRgQ0⟩ 400 (by kernel_rfl) (Yb bo (Ya (Yb hw (Ye (List.length W))) (Ya (Ya (show (List.length W + List.length F) * nat_lit 144 ≤ 140737488355328 by simp only [maxLen]; omega) (show List.length W + List.length F ≤ maxLen by simp only [maxLen]; omega)) (fun (Z0 : Value) => (nx Z0)))))
theorem gp46 (z : Ca) (bx bo : Nat) (F E : List T) (hl : W.length ≤ 1000000)
    (n0 : W.length ≤ 80 → wRgQ1 Γ Q [kRgQ0 [1,1,1,1,1,1,1,1,1,1,1,0,1,0,0,1,0,0,1,1,1,1,1,1,1], .blk 5, kRgQ0 [1,1,1,1,1,1,1,1,1,1,1,0,1,0,0,1,1], kRgQ0 [1,1,1,1,1,1,1,1,1,1,1,0,1,0], .blk 4, kRgQ0 [1,1,1,1,1,1,1,1,1,1,1,1]] ⟨frame 297 [(1, .sl 5 acts), (5, int n), (6, .sl 1 U), (9, .slx 34 9 W hw), (10, .ptr 10 qb 0), (11, .ptr 0 qd 0), (12, .ptr 1 qa 0), (13, .ptr 2 qo 0), (15, int (i : Nat)), (19, .ptr 18 bo 0)], obsG qd qa qo x y W hw qb M A0 A1 ++ [(bx, .cells (caC z)), (bo, .cells [.sl 34 F, .sl 5 E])], gl⟩)
    (n1 : 80 < W.length → wRgQ1 Γ Q [kRgQ0 [1,1,1,1,1,1,1,1,1,1,1,0,1,0,0,1,0,0,1,1,1,1,1,1,0,1,0], kRgQ0 [1,1,1,1,1,1,1,1,1,1,1,0,1,0,0,1,0,0,1,1,1,1,1,1,1], .blk 5, kRgQ0 [1,1,1,1,1,1,1,1,1,1,1,0,1,0,0,1,1], kRgQ0 [1,1,1,1,1,1,1,1,1,1,1,0,1,0], .blk 4, kRgQ0 [1,1,1,1,1,1,1,1,1,1,1,1]] ⟨frame 297 [(1, .sl 5 acts), (5, int n), (6, .sl 1 U), (9, .slx 34 9 W hw), (10, .ptr 10 qb 0), (11, .ptr 0 qd 0), (12, .ptr 1 qa 0), (13, .ptr 2 qo 0), (15, int (i : Nat)), (19, .ptr 18 bo 0)], obsG qd qa qo x y W hw qb M A0 A1 ++ [(bx, .cells (caC z)), (bo, .cells [.sl 34 F, .sl 5 E])], gl⟩) :
    wRgQ1 Γ Q [kRgQ0 [1,1,1,1,1,1,1,1,1,1,1,0,1,0,0,1,0,0,1,1,1,1,1,1], .blk 5, kRgQ0 [1,1,1,1,1,1,1,1,1,1,1,0,1,0,0,1,1], kRgQ0 [1,1,1,1,1,1,1,1,1,1,1,0,1,0], .blk 4, kRgQ0 [1,1,1,1,1,1,1,1,1,1,1,1]] ⟨frame 297 [(1, .sl 5 acts), (5, int n), (6, .sl 1 U), (9, .slx 34 9 W hw), (10, .ptr 10 qb 0), (11, .ptr 0 qd 0), (12, .ptr 1 qa 0), (13, .ptr 2 qo 0), (15, int (i : Nat)), (19, .ptr 18 bo 0)], obsG qd qa qo x y W hw qb M A0 A1 ++ [(bx, .cells (caC z)), (bo, .cells [.sl 34 F, .sl 5 E])], gl⟩ := by
  let HH : Nat → Nat → Hint := fun  | _, _ => .no
  let z0 := S.mk (frame 297 [(1, T.sl 5 acts), (5, int n), (6, T.sl 1 U), (9, T.slx 34 9 W hw), (10, T.ptr 10 qb 0), (11, T.ptr 0 qd 0), (12, T.ptr 1 qa 0), (13, T.ptr 2 qo 0), (15, int i), (19, T.ptr 18 bo 0)]) [(qd, Ob.cells [T.slx 7 3 (List.map (fun x => T.agg (dnC x)) x.d) x.hd, T.slx 7 4 (List.map (fun x => T.agg (dnC x)) y.d) y.hd, T.v (Value.slice none 0 0), T.v (Value.slice none 0 0), T.v (Value.slice none 0 0), T.v (Value.slice none 0 0)]), (qa, Ob.cells [T.slx 3 5 (List.map (fun x => T.agg (stC x)) x.a) x.ha, T.slx 3 6 (List.map (fun x => T.agg (stC x)) y.a) y.ha, T.v (Value.slice none 0 0), T.v (Value.slice none 0 0), T.v (Value.slice none 0 0), T.v (Value.slice none 0 0)]), (qo, Ob.cells [T.slx 3 7 (List.map (fun x => T.agg (stC x)) x.o) x.ho, T.slx 3 8 (List.map (fun x => T.agg (stC x)) y.o) y.ho, T.v (Value.slice none 0 0), T.v (Value.slice none 0 0), T.v (Value.slice none 0 0), T.v (Value.slice none 0 0)]), (0, Ob.room 7 75 (List.length (List.map (fun x => T.agg (dnC x)) x.d)) x.hd), (0, Ob.room 7 75 (List.length (List.map (fun x => T.agg (dnC x)) y.d)) y.hd), (0, Ob.room 3 51 (List.length (List.map (fun x => T.agg (stC x)) x.a)) x.ha), (0, Ob.room 3 51 (List.length (List.map (fun x => T.agg (stC x)) y.a)) y.ha), (0, Ob.room 3 51 (List.length (List.map (fun x => T.agg (stC x)) x.o)) x.ho), (0, Ob.room 3 51 (List.length (List.map (fun x => T.agg (stC x)) y.o)) y.ho), (0, Ob.room 34 70 (List.length W) hw), (qb, Ob.cells [T.mp 11 (M 0), T.mp 12 (M 1), T.mp 13 (M 2), T.mp 14 (M 3), T.mp 15 (M 4), T.mp 16 (M 5)]), (M 0, Ob.kv 51 GK (kF A0)), (M 1, Ob.kv 51 GK (kF A1)), (M 2, Ob.kv 51 GK (kF noA)), (M 3, Ob.kv 51 GK (kF noA)), (M 4, Ob.kv 51 GK (kF noA)), (M 5, Ob.kv 51 GK (kF noA)), (bx, Ob.cells [u8 z.what, u8 z.node, u8 z.key, T.v (Value.string z.t), T.v (Value.int IntKind.u16 (↑z.ch : Int))]), (bo, Ob.cells [T.sl 34 F, T.sl 5 E])] gl
  let z1 := sub (bd Try.f3) [1,1,1,1,1,1,1,1,1,1,1,0,1,0,0,1,0,0,1,1,1,1,1,1,1]
  let z2 := sub (bd Try.f3) [1,1,1,1,1,1,1,1,1,1,1,0,1,0,0,1,1]
  let z3 := sub (bd Try.f3) [1,1,1,1,1,1,1,1,1,1,1,0,1,0]
  let z4 := sub (bd Try.f3) [1,1,1,1,1,1,1,1,1,1,1,1]
  exact run_sound ⟨HH, [((0, 48), ([1,5,6,9,10,11,12,13,15,19], 19)), ((0, 47), ([1,5,6,9,10,11,12,13,15,19], 19))], plRgQ0⟩ 400 (by kernel_rfl) (Ys (decide ((↑(List.length W) : Int) > (80 : Int))) (fun Z0 => (show wRgQ1 Γ Q [kRgQ0 [1,1,1,1,1,1,1,1,1,1,1,0,1,0,0,1,0,0,1,1,1,1,1,1,0,1,0], It.code z1, It.blk 5, It.code z2, It.code z3, It.blk 4, It.code z4] z0 from n1 (by have := of_decide_eq_true Z0; omega))) (fun Z1 => (show wRgQ1 Γ Q [It.code z1, It.blk 5, It.code z2, It.code z3, It.blk 4, It.code z4] z0 from n0 (by have := of_decide_eq_false Z1; omega))))
theorem gp47 (z : Ca) (bx bo : Nat) (F E : List T) (l : Nat) (hl : W.length = 80 + l) (hl2 : l ≤ 1000000)
    (nx : ∀ hw', wRgQ1 Γ Q [kRgQ0 [1,1,1,1,1,1,1,1,1,1,1,0,1,0,0,1,0,0,1,1,1,1,1,1,1], .blk 5, kRgQ0 [1,1,1,1,1,1,1,1,1,1,1,0,1,0,0,1,1], kRgQ0 [1,1,1,1,1,1,1,1,1,1,1,0,1,0], .blk 4, kRgQ0 [1,1,1,1,1,1,1,1,1,1,1,1]] ⟨frame 297 [(1, .sl 5 acts), (5, int n), (6, .sl 1 U), (9, .slx 34 9 (W.drop l) hw'), (10, .ptr 10 qb 0), (11, .ptr 0 qd 0), (12, .ptr 1 qa 0), (13, .ptr 2 qo 0), (15, int (i : Nat)), (19, .ptr 18 bo 0)], obsG qd qa qo x y (W.drop l) hw' qb M A0 A1 ++ [(bx, .cells (caC z)), (bo, .cells [.sl 34 F, .sl 5 E])], gl⟩) :
    wRgQ1 Γ Q [kRgQ0 [1,1,1,1,1,1,1,1,1,1,1,0,1,0,0,1,0,0,1,1,1,1,1,1,0,1,0], kRgQ0 [1,1,1,1,1,1,1,1,1,1,1,0,1,0,0,1,0,0,1,1,1,1,1,1,1], .blk 5, kRgQ0 [1,1,1,1,1,1,1,1,1,1,1,0,1,0,0,1,1], kRgQ0 [1,1,1,1,1,1,1,1,1,1,1,0,1,0], .blk 4, kRgQ0 [1,1,1,1,1,1,1,1,1,1,1,1]] ⟨frame 297 [(1, .sl 5 acts), (5, int n), (6, .sl 1 U), (9, .slx 34 9 W hw), (10, .ptr 10 qb 0), (11, .ptr 0 qd 0), (12, .ptr 1 qa 0), (13, .ptr 2 qo 0), (15, int (i : Nat)), (19, .ptr 18 bo 0)], obsG qd qa qo x y W hw qb M A0 A1 ++ [(bx, .cells (caC z)), (bo, .cells [.sl 34 F, .sl 5 E])], gl⟩ := by
  have h1 : T.v (.int .i64 (IntKind.wrap .i64 ((W.length : Int) - 80))) = int (l : Nat) := congrArg int (by rw [wrap_i64 (by omega) (by omega)]; omega)
  have hd : W.length - l = (W.drop l).length := (List.length_drop).symm
  have nx := nx (sufV 34 l hw)
  unfold obsG at nx
  rw [← hd] at nx
  have nx := TWk.imp (s := ⟨frame 297 [(1, .sl 5 acts), (5, int n), (6, .sl 1 U), (9, .slx 34 9 (W.drop l) (sufV 34 l hw)), (10, .ptr 10 qb 0), (11, .ptr 0 qd 0), (12, .ptr 1 qa 0), (13, .ptr 2 qo 0), (15, int (i : Nat)), (19, .ptr 18 bo 0)], obsG qd qa qo x y W hw qb M A0 A1 ++ [(bx, .cells (caC z)), (bo, .cells [.sl 34 F, .sl 5 E])], gl⟩) nx (Imp.suffix (i := 9) (l := l) rfl (by omega))
  generalize hv : sufV 34 l hw = v at nx
  let HH : Nat → Nat → Hint := fun | 47, 3 => .res (int (l : Nat)) | 47, 4 => .glob | 47, 5 => .res (.slx 34 9 (W.drop l) v) | _, _ => .no
  exact run_sound ⟨HH, [((0, 48), ([1,5,6,9,10,11,12,13,15,19], 19))], plRgQ0⟩ 400 (by kernel_rfl) (Ya h1 (Ya (Ya (show (0 : Int) ≤ (IntKind.i64, (↑l : Int)).snd by omega) (show (IntKind.i64, (↑l : Int)).snd ≤ (↑(List.length W) : Int) by omega)) (Ya ((kdef (sufE W hv))) nx)))
end
end X20
end Go.Proofs.Ytafcbipmmjegcaa.Vm
namespace Go.Proofs.Ytafcbipmmjegcaa.Vm
open Go Go.RowKit
set_option maxRecDepth 100000
noncomputable abbrev kRgR0 (l : List Nat) : It := .code (sub (bd Try.f3) l)
noncomputable abbrev wRgR1 (Γ : Ctx) (Q : T → Obs → Glb → Prop) : List It → S → Prop := TWk Try.prog Γ (fin Try.prog Try.f3 [] Q)
def plRgR0 : Nat → Option RPlan := fun | 32 => some ⟨[], [0, 4, 9], .take false [1,2,3,5,6,7,8] (.one 0 (.one 4 (.one 9 (.take false [10] .done))))⟩ | 35 => some ⟨[], [5, 6], .take true [0,1,2,3,4] (.one 5 (.one 6 .done))⟩ | 41 => some ⟨[17], [17, 24, 25], .take true [0,1,2,3,4,5,6,7,8,9,10,11,12,13,14,15,16] (.three 17 22 23 (.take false [18,19,20,21] (.two 22 23 (.one 23 (.one 24 (.one 25 (.take false [26] .done)))) (.one 22 (.one 24 (.one 25 (.take false [26] .done)))))) (.two 17 23 (.take false [18,19,20,21] (.one 23 (.one 24 (.one 25 (.take false [26] .done))))) (.one 17 (.take false [18,19,20,21] (.one 24 (.one 25 (.take false [26] .done)))))) (.two 17 22 (.take false [18,19,20,21] (.one 22 (.one 24 (.one 25 (.take false [26] .done))))) (.one 17 (.take false [18,19,20,21] (.one 24 (.one 25 (.take false [26] .done)))))))⟩ | 43 => some ⟨[], [7], .take true [0,1,2,3,4,5,6] (.one 7 .done)⟩ | 53 => some ⟨[], [11], .take true [0,1,2,3,4,5,6,7] (.one 8 (.one 9 (.take true [10] (.one 11 .done))))⟩ | 61 => some ⟨[], [20], .take true [0,1,2,3,4,5,6,7,8,9,10,11,12,13,14,15,16] (.one 17 (.one 18 (.take true [19] (.one 20 .done))))⟩ | 62 => some ⟨[], [4], .take true [0,1,2,3] (.one 4 (.take false [5] .done))⟩ | _ => none
namespace X20
open Rep (Stp Wrd Cel Drv Plc RS Fm Ev put)
theorem ptr_re {i j b o : Nat} (M : Pm) (v : Value) (h : Rel M (.ptr i b o) v) : Rel M (.ptr j b o) v := by simp only [Rel] at h ⊢; exact h
theorem Imp.slotE {ts ts2 : List T} {ob : Obs} {gl : Glb} {j : Nat} {t t' : T} (hj : ts[j]? = some t) (h : ∀ M v, Rel M t v → Rel M t' v) (e : ts.set j t' = ts2) : Imp ts ob gl ts2 ob gl := e ▸ Imp.slotR hj h
theorem wr_form1 (o : Rep.Out) (s : Option Stp) : ∃ z, wrT o s = .tup [outT o.2.1 o.2.2, .agg (stC z), bool s.isSome] ∧ (∀ y, s = some y → z = y) := by
  cases s with
  | none => exact ⟨⟨0, 0, 0⟩, rfl, fun _ h => by cases h⟩
  | some s => exact ⟨s, rfl, fun _ h => by injection h⟩
section
variable (Γ : Ctx) (qd qa qo qb : Nat) (M : Nat → Nat) (acts U : List T) (n i : Nat) (W : List T) (hw : Value) (A0 A1 : Stp → Option Stp) (x y : Bz) (gl : Glb) (Q : T → Obs → Glb → Prop)
theorem gpW (z : Ca) (k : Nat) (hk : k = 1 ∨ k = 2) (hz : z.what % 8 = k) (bx bo who key : Nat) (p : Nat) (hp : U[who]? = some (.gp p 0)) (c : Cel) (hb ok : Bool) (s : Stp) (F : List Fm) (E : List Ev) (Pn : Dr → Glb → Prop) (t8 : ByteArray)
    (ht : t8 = z.t.extract 0 (min z.t.size 8))
    (hg : ∀ Q' : T → Obs → Glb → Prop, Q' (.tup [.agg (clC c), bool hb]) [] gl → TCalls Try.prog 13 [.gp p 0, u8 key] [] gl Q')
    (hc : ∀ Q' : T → Obs → Glb → Prop, (∀ D' gl', Pn D' gl' → Q' (.tup [outT F E, .agg (stC s), bool ok]) [] gl') → TCalls Try.prog 14 [.gp p 0, u8 key, .agg [bool true, txt t8], bool (decide (k = 2))] [] gl Q')
    (nx : ∀ bc bw bs D' gl', Pn D' gl' → wRgR1 Γ Q [kRgR0 [1,1,1,1,1,1,1,1,1,1,1,0,1,0,0,1,0,0,1,1,1,1,0,1,0,1,1,1,0,1,1], .blk 6, kRgR0 [1,1,1,1,1,1,1,1,1,1,1,0,1,0,0,1,0,0,1,1,1,1,1], .blk 5, kRgR0 [1,1,1,1,1,1,1,1,1,1,1,0,1,0,0,1,1], kRgR0 [1,1,1,1,1,1,1,1,1,1,1,0,1,0], .blk 4, kRgR0 [1,1,1,1,1,1,1,1,1,1,1,1]] ⟨frame 297 [(1, .sl 5 acts), (5, int n), (6, .sl 1 U), (9, .slx 34 9 W hw), (10, .ptr 10 qb 0), (11, .ptr 0 qd 0), (12, .ptr 1 qa 0), (13, .ptr 2 qo 0), (15, int (i : Nat)), (18, u8 key), (19, .ptr 18 bo 0), (20, .ptr 19 bc 0), (22, .ptr 20 bw 0), (23, .ptr 21 bs 0), (24, bool ok)], obsG qd qa qo x y W hw qb M A0 A1 ++ [(bx, .cells (caC z)), (bo, .cells [.v nilS, .v nilS]), (bc, .cells (clC c)), (bw, .cells [.sl 34 (Row.aggs frC F), .sl 5 (Row.aggs evC E)]), (bs, .cells (stC s))], gl'⟩) :
    wRgR1 Γ Q [kRgR0 [1,1,1,1,1,1,1,1,1,1,1,0,1,0,0,1,0,0,1,1,1,1], .blk 5, kRgR0 [1,1,1,1,1,1,1,1,1,1,1,0,1,0,0,1,1], kRgR0 [1,1,1,1,1,1,1,1,1,1,1,0,1,0], .blk 4, kRgR0 [1,1,1,1,1,1,1,1,1,1,1,1]] ⟨frame 297 [(1, .sl 5 acts), (5, int n), (6, .sl 1 U), (9, .slx 34 9 W hw), (10, .ptr 10 qb 0), (11, .ptr 0 qd 0), (12, .ptr 1 qa 0), (13, .ptr 2 qo 0), (15, int (i : Nat)), (16, .ptr 17 bx 0), (17, int who), (18, u8 key), (19, .ptr 18 bo 0)], obsG qd qa qo x y W hw qb M A0 A1 ++ [(bx, .cells (caC z)), (bo, .cells [.v nilS, .v nilS])], gl⟩ := by
  have e1 : U[((who : Nat) : Int).toNat]? = some (.gp p 0) := by rw [ni]; exact hp
  have hrem := remN z.what 8 .u8
  rw [hz] at hrem
  have ht' : z.t.extract (0 : Int).toNat (if (8 : Int) < (z.t.size : Int) then (8 : Int) else (z.t.size : Int)).toNat = t8 := by
    rw [ht]
    congr 1
    split <;> omega
  have ht' : some (T.agg [T.v (.bool true), T.v (.string (z.t.extract (0 : Int).toNat (if (8 : Int) < (z.t.size : Int) then (8 : Int) else (z.t.size : Int)).toNat))]) = some (.agg [bool true, txt t8]) := by rw [ht']; rfl
  have nx2 : ∀ bc bw bs D' gl', Pn D' gl' → wRgR1 Γ Q [kRgR0 [1,1,1,1,1,1,1,1,1,1,1,0,1,0,0,1,0,0,1,1,1,1,0,1,0,1,1,1,0,1,1], .blk 6, kRgR0 [1,1,1,1,1,1,1,1,1,1,1,0,1,0,0,1,0,0,1,1,1,1,1], .blk 5, kRgR0 [1,1,1,1,1,1,1,1,1,1,1,0,1,0,0,1,1], kRgR0 [1,1,1,1,1,1,1,1,1,1,1,0,1,0], .blk 4, kRgR0 [1,1,1,1,1,1,1,1,1,1,1,1]] ⟨frame 297 [(1, .sl 5 acts), (5, int n), (6, .sl 1 U), (9, .slx 34 9 W hw), (10, .ptr 10 qb 0), (11, .ptr 0 qd 0), (12, .ptr 1 qa 0), (13, .ptr 2 qo 0), (15, int (i : Nat)), (18, u8 key), (19, .ptr 18 bo 0), (20, .ptr 19 bc 0), (22, .ptr 21 bw 0), (23, .ptr 20 bs 0), (24, bool ok)], obsG qd qa qo x y W hw qb M A0 A1 ++ [(bx, .cells (caC z)), (bo, .cells [.v nilS, .v nilS]), (bc, .cells (clC c)), (bs, .cells (stC s)), (bw, .cells [.sl 34 (Row.aggs frC F), .sl 5 (Row.aggs evC E)])], gl'⟩ := fun bc bw bs D' gl' h =>
    TWk.imp (nx bc bw bs D' gl' h) (((Imp.sel (ob' := obsG qd qa qo x y W hw qb M A0 A1 ++ [(bx, .cells (caC z)), (bo, .cells [.v nilS, .v nilS]), (bc, .cells (clC c)), (bw, .cells [.sl 34 (Row.aggs frC F), .sl 5 (Row.aggs evC E)]), (bs, .cells (stC s))]) [0,1,2,3,4,5,6,7,8,9,10,11,12,13,14,15,16,17,18,19,21,20] (by decide) (by kernel_rfl)).trans
      (Imp.slotE (ts2 := frame 297 [(1, .sl 5 acts), (5, int n), (6, .sl 1 U), (9, .slx 34 9 W hw), (10, .ptr 10 qb 0), (11, .ptr 0 qd 0), (12, .ptr 1 qa 0), (13, .ptr 2 qo 0), (15, int (i : Nat)), (18, u8 key), (19, .ptr 18 bo 0), (20, .ptr 19 bc 0), (22, .ptr 20 bw 0), (23, .ptr 20 bs 0), (24, bool ok)]) (j := 22) (t := .ptr 21 bw 0) (t' := .ptr 20 bw 0) (by kernel_rfl) ptr_re (by kernel_rfl))).trans
      (Imp.slotE (j := 23) (t := .ptr 20 bs 0) (t' := .ptr 21 bs 0) (by kernel_rfl) ptr_re (by kernel_rfl)))
  rcases hk with rfl | rfl
  · have hrem := hrem
    let HH : Nat → Nat → Hint := fun | 27, 2 => .res (u8 1) | 40, 2 => .res (.gp p 0) | 40, 5 => toldG (.tup [.agg (clC c), bool hb]) [] [] gl | 41, 2 => .res (.gp p 0) | 41, 12 => .res (.agg [bool true, txt t8]) | 41, 15 => .res (u8 1) | 41, 17 => .call false (Dr × Glb) (fun a => Pn a.1 a.2) [] true (fun _ => .tup [outT F E, .agg (stC s), bool ok]) (fun _ => []) (fun a => a.2) | _, _ => .no
    exact run_sound ⟨HH, [((0, 42), ([1,5,6,9,10,11,12,13,15,18,19,20,22,23,24], 22))], plRgR0⟩ 400 (by kernel_rfl) (Yb bx (Ya hrem (Ya (show (0 : Int) ≤ (↑who : Int) by omega) (Ya e1 (Ya (hg (HH 40 5).P (toldG_post rfl)) (Yu (fun (Z0 : Nat) => (Yk 7 Z0 (Ya (show (0 : Int) ≤ (↑who : Int) by omega) (Ya e1 (Yb bx (Yb bx (Ya (Ya (show (0 : Int) ≤ (↑(0 : Nat) : Int) by omega) (Ya (show (↑(0 : Nat) : Int) ≤ (IntKind.i64, if (8 : Int) < (↑(ByteArray.size z.t) : Int) then (8 : Int) else (↑(ByteArray.size z.t) : Int)).snd by omega) (show (IntKind.i64, if (8 : Int) < (↑(ByteArray.size z.t) : Int) then (8 : Int) else (↑(ByteArray.size z.t) : Int)).snd ≤ (↑(ByteArray.size z.t) : Int) by omega))) (Ya ht' (Yb bx (Ya hrem (Ya (Ya (hc (HH 41 17).P fun D' gl' h => ⟨(D', gl'), h, rfl, rfl, Nat.zero_le _, fun _ => rfl⟩) (fun (Z1 : Dr × Glb) => (fun (Z2 : Pn Z1.fst Z1.snd) => (Ya (fun (Z3 : Nat) => (fun (Z4 : Nat) => (Yk 2 Z3 (Yk 3 Z4 (nx Z0 Z3 Z4 Z1.fst Z1.snd Z2))))) (fun (Z5 : Nat) => (fun (Z6 : Nat) => (Yk 2 Z6 (Yk 3 Z5 (nx2 Z0 Z6 Z5 Z1.fst Z1.snd Z2))))))))) (Ya (fun (Z7 : Nat) => (Ya (Ya (hc (HH 41 17).P fun D' gl' h => ⟨(D', gl'), h, rfl, rfl, Nat.zero_le _, fun _ => rfl⟩) (fun (Z8 : Dr × Glb) => (fun (Z9 : Pn Z8.fst Z8.snd) => (fun (Z10 : Nat) => (Yk 2 Z7 (Yk 3 Z10 (nx Z0 Z7 Z10 Z8.fst Z8.snd Z9))))))) (fun (Z11 : Nat) => (Ya (hc (HH 41 17).P fun D' gl' h => ⟨(D', gl'), h, rfl, rfl, Nat.zero_le _, fun _ => rfl⟩) (fun (Z12 : Dr × Glb) => (fun (Z13 : Pn Z12.fst Z12.snd) => (Yk 2 Z7 (Yk 3 Z11 (nx Z0 Z7 Z11 Z12.fst Z12.snd Z13))))))))) (fun (Z14 : Nat) => (Ya (Ya (hc (HH 41 17).P fun D' gl' h => ⟨(D', gl'), h, rfl, rfl, Nat.zero_le _, fun _ => rfl⟩) (fun (Z15 : Dr × Glb) => (fun (Z16 : Pn Z15.fst Z15.snd) => (fun (Z17 : Nat) => (Yk 2 Z17 (Yk 3 Z14 (nx2 Z0 Z17 Z14 Z15.fst Z15.snd Z16))))))) (fun (Z18 : Nat) => (Ya (hc (HH 41 17).P fun D' gl' h => ⟨(D', gl'), h, rfl, rfl, Nat.zero_le _, fun _ => rfl⟩) (fun (Z19 : Dr × Glb) => (fun (Z20 : Pn Z19.fst Z19.snd) => (Yk 2 Z18 (Yk 3 Z14 (nx2 Z0 Z18 Z14 Z19.fst Z19.snd Z20)))))))))))))))))))))))))))
  · have hrem := hrem
    let HH : Nat → Nat → Hint := fun | 27, 2 => .res (u8 2) | 40, 2 => .res (.gp p 0) | 40, 5 => toldG (.tup [.agg (clC c), bool hb]) [] [] gl | 41, 2 => .res (.gp p 0) | 41, 12 => .res (.agg [bool true, txt t8]) | 41, 15 => .res (u8 2) | 41, 17 => .call false (Dr × Glb) (fun a => Pn a.1 a.2) [] true (fun _ => .tup [outT F E, .agg (stC s), bool ok]) (fun _ => []) (fun a => a.2) | _, _ => .no
    exact run_sound ⟨HH, [((0, 42), ([1,5,6,9,10,11,12,13,15,18,19,20,22,23,24], 22))], plRgR0⟩ 400 (by kernel_rfl) (Yb bx (Ya hrem (Ya (show (0 : Int) ≤ (↑who : Int) by omega) (Ya e1 (Ya (hg (HH 40 5).P (toldG_post rfl)) (Yu (fun (Z0 : Nat) => (Yk 7 Z0 (Ya (show (0 : Int) ≤ (↑who : Int) by omega) (Ya e1 (Yb bx (Yb bx (Ya (Ya (show (0 : Int) ≤ (↑(0 : Nat) : Int) by omega) (Ya (show (↑(0 : Nat) : Int) ≤ (IntKind.i64, if (8 : Int) < (↑(ByteArray.size z.t) : Int) then (8 : Int) else (↑(ByteArray.size z.t) : Int)).snd by omega) (show (IntKind.i64, if (8 : Int) < (↑(ByteArray.size z.t) : Int) then (8 : Int) else (↑(ByteArray.size z.t) : Int)).snd ≤ (↑(ByteArray.size z.t) : Int) by omega))) (Ya ht' (Yb bx (Ya hrem (Ya (Ya (hc (HH 41 17).P fun D' gl' h => ⟨(D', gl'), h, rfl, rfl, Nat.zero_le _, fun _ => rfl⟩) (fun (Z1 : Dr × Glb) => (fun (Z2 : Pn Z1.fst Z1.snd) => (Ya (fun (Z3 : Nat) => (fun (Z4 : Nat) => (Yk 2 Z3 (Yk 3 Z4 (nx Z0 Z3 Z4 Z1.fst Z1.snd Z2))))) (fun (Z5 : Nat) => (fun (Z6 : Nat) => (Yk 2 Z6 (Yk 3 Z5 (nx2 Z0 Z6 Z5 Z1.fst Z1.snd Z2))))))))) (Ya (fun (Z7 : Nat) => (Ya (Ya (hc (HH 41 17).P fun D' gl' h => ⟨(D', gl'), h, rfl, rfl, Nat.zero_le _, fun _ => rfl⟩) (fun (Z8 : Dr × Glb) => (fun (Z9 : Pn Z8.fst Z8.snd) => (fun (Z10 : Nat) => (Yk 2 Z7 (Yk 3 Z10 (nx Z0 Z7 Z10 Z8.fst Z8.snd Z9))))))) (fun (Z11 : Nat) => (Ya (hc (HH 41 17).P fun D' gl' h => ⟨(D', gl'), h, rfl, rfl, Nat.zero_le _, fun _ => rfl⟩) (fun (Z12 : Dr × Glb) => (fun (Z13 : Pn Z12.fst Z12.snd) => (Yk 2 Z7 (Yk 3 Z11 (nx Z0 Z7 Z11 Z12.fst Z12.snd Z13))))))))) (fun (Z14 : Nat) => (Ya (Ya (hc (HH 41 17).P fun D' gl' h => ⟨(D', gl'), h, rfl, rfl, Nat.zero_le _, fun _ => rfl⟩) (fun (Z15 : Dr × Glb) => (fun (Z16 : Pn Z15.fst Z15.snd) => (fun (Z17 : Nat) => (Yk 2 Z17 (Yk 3 Z14 (nx2 Z0 Z17 Z14 Z15.fst Z15.snd Z16))))))) (fun (Z18 : Nat) => (Ya (hc (HH 41 17).P fun D' gl' h => ⟨(D', gl'), h, rfl, rfl, Nat.zero_le _, fun _ => rfl⟩) (fun (Z19 : Dr × Glb) => (fun (Z20 : Pn Z19.fst Z19.snd) => (Yk 2 Z18 (Yk 3 Z14 (nx2 Z0 Z18 Z14 Z19.fst Z19.snd Z20)))))))))))))))))))))))))))
end
end X20
end Go.Proofs.Ytafcbipmmjegcaa.Vm
