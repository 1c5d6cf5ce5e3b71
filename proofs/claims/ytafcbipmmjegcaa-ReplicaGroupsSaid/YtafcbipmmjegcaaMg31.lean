/- Texts of this claim: RgM. -/
import Derived.Test.YtafcbipmmjegcaaMg15
import Derived.Test.YtafcbipmmjegcaaMg29
import Derived.Test.YtafcbipmmjegcaaMg30
namespace Go.Proofs.Ytafcbipmmjegcaa.Vm
open Go Go.RowKit
set_option maxRecDepth 100000
noncomputable abbrev kRgM0 (l : List Nat) : It := .code (sub (bd Try.f16) l)
noncomputable abbrev wRgM1 (Γ : Ctx) (Q : T → Obs → Glb → Prop) : List It → S → Prop := TWk Try.prog Γ (fin Try.prog Try.f16 [0, 1, 2, 3, 4, 5, 6, 7, 8] Q)
def plRgM0 : Nat → Option RPlan := fun | 11 => some ⟨[], [11], .take true [0,1,2,3,4,5,6,7,8,9,10] (.one 11 .done)⟩ | 29 => some ⟨[], [8, 10], .take false [0,1,2,3,4] (.take true [5,6] (.one 7 (.one 8 (.take false [9] (.one 10 .done)))))⟩ | _ => none
namespace X20
open Rep (Stp Wrd Cel Drv Plc RS Fm Ev put)
def dnC (d : Stp × Stp × Bool) : List T := [u32 d.1.n, u8 d.1.b, u8 d.1.l, u32 d.2.1.n, u8 d.2.1.b, u8 d.2.1.l, bool d.2.2]
def obsZ (qd qa qo : Nat) (d0 d1 a0 a1 o0 o1 : List T) (hd0 hd1 ha0 ha1 ho0 ho1 : Value) : Obs :=
  [(qd, .cells [.slx 7 3 d0 hd0, .slx 7 4 d1 hd1, .v nilS, .v nilS, .v nilS, .v nilS]), (qa, .cells [.slx 3 5 a0 ha0, .slx 3 6 a1 ha1, .v nilS, .v nilS, .v nilS, .v nilS]), (qo, .cells [.slx 3 7 o0 ho0, .slx 3 8 o1 ho1, .v nilS, .v nilS, .v nilS, .v nilS]),
   (0, .room 7 75 d0.length hd0), (0, .room 7 75 d1.length hd1), (0, .room 3 51 a0.length ha0), (0, .room 3 51 a1.length ha1), (0, .room 3 51 o0.length ho0), (0, .room 3 51 o1.length ho1)]
def obsS (qd qa qo : Nat) (x y : Bz) : Obs := obsZ qd qa qo (Row.aggs dnC x.d) (Row.aggs dnC y.d) (Row.aggs stC x.a) (Row.aggs stC y.a) (Row.aggs stC x.o) (Row.aggs stC y.o) x.hd y.hd x.ha y.ha x.ho y.ho
def gps (B : Nat → Nat) (n : Nat) : List T := (List.range n).map fun i => .gp (B i) 0
theorem gps_at {B : Nat → Nat} {n i : Nat} (h : i < n) : (gps B n)[i]? = some (.gp (B i) 0) := by simp [gps, h]
theorem gps_len (B : Nat → Nat) (n : Nat) : (gps B n).length = n := by simp [gps]
theorem ni (k : Nat) : ((k : Nat) : Int).toNat = k := Int.toNat_natCast k
section
variable (Γ : Ctx) (qd qa qo : Nat) (U : List T) (gl : Glb) (Q : T → Obs → Glb → Prop) (i : Nat) (y : Bz)
theorem so25_0 (hi : i < 5) (bc : Nat) (c : Cel) : ∀ (m k : Nat) (x : Bz), k + m = x.a.length → x.o.length + m ≤ 100000000 → x.a.length ≤ 1000000 →
    (∀ x', Grw m x x' → wRgM1 Γ Q [kRgM0 [1,0,1,0,0,1,0,0,1,0], .blk 2, .blk 1, kRgM0 [1,0,1,0,0,1,1], kRgM0 [1,0,1,0], .blk 0, kRgM0 [1,1]] ⟨frame 162 [(0, .sl 1 U), (1, .sa 0 qd 0 6 6), (2, .sa 1 qa 0 6 6), (3, .sa 2 qo 0 6 6), (9, int 0), (10, int (i + 1 : Nat))], obsS qd qa qo x' y, gl⟩) →
    wRgM1 Γ Q [kRgM0 [1,0,1,0,0,1,0,0,1,0,0,1,0,0,1,1,1,1,1,0], .blk 10, .blk 3, kRgM0 [1,0,1,0,0,1,0,0,1,0,0,1,1], kRgM0 [1,0,1,0,0,1,0,0,1,0], .blk 2, .blk 1, kRgM0 [1,0,1,0,0,1,1], kRgM0 [1,0,1,0], .blk 0, kRgM0 [1,1]] ⟨frame 162 [(0, .sl 1 U), (1, .sa 0 qd 0 6 6), (2, .sa 1 qa 0 6 6), (3, .sa 2 qo 0 6 6), (9, int 0), (10, int i), (11, .ptr 9 bc 0), (18, int k)], obsS qd qa qo x y ++ [(bc, .cells (clC c))], gl⟩ := by
  intro m
  have hwi : IntKind.wrap .i64 ((i : Int) + 1) = ((i + 1 : Nat) : Int) := by rw [wrap_i64 (by omega) (by omega)]; omega
  induction m with
  | zero =>
    intro k x hk ho ha nx
    have nx := nx x (Grw.refl x)
    have hl : (Row.aggs stC x.a).length = k := by rw [Row.aggs_len]; omega
    unfold obsS at *
    generalize Row.aggs stC x.a = A at *
    let HH : Nat → Nat → Hint := fun | 6, 1 => .res (int (i + 1 : Nat)) | _, _ => .no
    exact run_sound ⟨HH, [((2, 5), ([0,1,2,3,9,10], 9)), ((0, 27), ([0,1,2,3,9,10,11,18], 10))], plRgM0⟩ 400 (by kernel_rfl) (Ya (Ya (show (0 : Int) ≤ (0 : Int) by omega) (show (0 : Int) < (↑(6 : Nat) : Int) by omega)) (Yb qa (Ys (decide ((↑k : Int) < (↑(List.length A) : Int))) (fun Z0 => (show wRgM1 Γ Q [kRgM0 [1,0,1,0,0,1,0,0,1,0,0,1,0,0,1,1,1,1,1,0,0,1,0,0], It.blk 11, kRgM0 [1,0,1,0,0,1,0,0,1,0,0,1,0,0,1,1,1,1,1,0,0,1,1], kRgM0 [1,0,1,0,0,1,0,0,1,0,0,1,0,0,1,1,1,1,1,0], It.blk 10, It.blk 3, kRgM0 [1,0,1,0,0,1,0,0,1,0,0,1,1], kRgM0 [1,0,1,0,0,1,0,0,1,0], It.blk 2, It.blk 1, kRgM0 [1,0,1,0,0,1,1], kRgM0 [1,0,1,0], It.blk 0, kRgM0 [1,1]] (S.mk (frame 162 [(0, T.sl 1 U), (1, T.sa 0 qd 0 6 6), (2, T.sa 1 qa 0 6 6), (3, T.sa 2 qo 0 6 6), (9, int (0 : Int)), (10, int i), (11, T.ptr 9 bc 0), (18, int k)]) [(qd, Ob.cells [T.slx 7 3 (List.map (fun x => T.agg (dnC x)) x.d) x.hd, T.slx 7 4 (List.map (fun x => T.agg (dnC x)) y.d) y.hd, T.v (Value.slice none 0 0), T.v (Value.slice none 0 0), T.v (Value.slice none 0 0), T.v (Value.slice none 0 0)]), (qa, Ob.cells [T.slx 3 5 A x.ha, T.slx 3 6 (List.map (fun x => T.agg (stC x)) y.a) y.ha, T.v (Value.slice none 0 0), T.v (Value.slice none 0 0), T.v (Value.slice none 0 0), T.v (Value.slice none 0 0)]), (qo, Ob.cells [T.slx 3 7 (List.map (fun x => T.agg (stC x)) x.o) x.ho, T.slx 3 8 (List.map (fun x => T.agg (stC x)) y.o) y.ho, T.v (Value.slice none 0 0), T.v (Value.slice none 0 0), T.v (Value.slice none 0 0), T.v (Value.slice none 0 0)]), (0, Ob.room 7 75 (List.length (List.map (fun x => T.agg (dnC x)) x.d)) x.hd), (0, Ob.room 7 75 (List.length (List.map (fun x => T.agg (dnC x)) y.d)) y.hd), (0, Ob.room 3 51 (List.length A) x.ha), (0, Ob.room 3 51 (List.length (List.map (fun x => T.agg (stC x)) y.a)) y.ha), (0, Ob.room 3 51 (List.length (List.map (fun x => T.agg (stC x)) x.o)) x.ho), (0, Ob.room 3 51 (List.length (List.map (fun x => T.agg (stC x)) y.o)) y.ho), (bc, Ob.cells (clC c))] gl) by exfalso; have := of_decide_eq_true Z0; omega)) (fun Z1 => (Ya (congrArg int hwi) nx)))))
  | succ m ih =>
    intro k x hk ho ha nx
    have hkl : k < x.a.length := by omega
    obtain ⟨a, hat⟩ : ∃ a, x.a[k]? = some a := ⟨_, List.getElem?_eq_getElem hkl⟩
    have hmem := List.mem_of_getElem? hat
    have e1 : (Row.aggs stC x.a)[((k : Nat) : Int).toNat]? = some (.agg (stC a)) := Row.aggs_at (by rw [ni]; exact hat)
    have hwk : IntKind.wrap .i64 ((k : Int) + 1) = ((k + 1 : Nat) : Int) := by rw [wrap_i64 (by omega) (by omega)]; omega
    have nA := ih (k + 1) x (by omega) (by omega) ha fun x' g => nx x' (g.mono (by omega))
    have nB := fun v => ih (k + 1) { x with o := x.o ++ [a], ho := v } (by dsimp only; omega) (by dsimp only; rw [List.length_append, List.length_singleton]; omega) ha fun x' g => nx x' (((Grw.one x a hmem v).tr g).mono (by omega))
    have nB : ∀ v, wRgM1 Γ Q [kRgM0 [1,0,1,0,0,1,0,0,1,0,0,1,0,0,1,1,1,1,1,0], .blk 10, .blk 3, kRgM0 [1,0,1,0,0,1,0,0,1,0,0,1,1], kRgM0 [1,0,1,0,0,1,0,0,1,0], .blk 2, .blk 1, kRgM0 [1,0,1,0,0,1,1], kRgM0 [1,0,1,0], .blk 0, kRgM0 [1,1]] ⟨frame 162 [(0, .sl 1 U), (1, .sa 0 qd 0 6 6), (2, .sa 1 qa 0 6 6), (3, .sa 2 qo 0 6 6), (9, int 0), (10, int i), (11, .ptr 9 bc 0), (18, int (k + 1 : Nat))], obsZ qd qa qo (Row.aggs dnC x.d) (Row.aggs dnC y.d) (Row.aggs stC x.a) (Row.aggs stC y.a) (Row.aggs stC x.o ++ [.agg (stC a)]) (Row.aggs stC y.o) x.hd y.hd x.ha y.ha v y.ho ++ [(bc, .cells (clC c))], gl⟩ := fun v => by
      have := nB v
      unfold obsS at this
      dsimp only at this
      rw [Row.aggs_snoc] at this
      exact this
    have hl : (Row.aggs stC x.a).length = k + (m + 1) := by rw [Row.aggs_len]; omega
    have hlo : (Row.aggs stC x.o).length + 1 ≤ 1000000000 := by rw [Row.aggs_len]; omega
    clear ih nx hkl
    unfold obsS at *
    generalize Row.aggs stC x.a = A at *
    generalize Row.aggs stC x.o = O at *
    let HH : Nat → Nat → Hint := fun | 27, 5 => .res (.agg (stC a)) | 28, 17 => told (bool (Rep.less a c.w.s)) [] [] | 26, 1 => .res (int (k + 1 : Nat)) | _, _ => .no
    exact run_sound ⟨HH, [((2, 25), ([0,1,2,3,9,10,11,18], 10)), ((0, 6), ([0,1,2,3,9,10], 9))], fun | 29 => some ⟨[2,10], [8,10], .take false [0,1,2,3,4] (.take true [5,6] (.one 7 (.one 8 (.take false [9] (.one 10 .done)))))⟩ | n => plRgM0 n⟩ 400 (by kernel_rfl) (Ya (Ya (show (0 : Int) ≤ (0 : Int) by omega) (show (0 : Int) < (↑(6 : Nat) : Int) by omega)) (Yb qa (Ys (decide ((↑k : Int) < (↑(List.length A) : Int))) (fun Z0 => (Ya (Ya (show (0 : Int) ≤ (0 : Int) by omega) (show (0 : Int) < (↑(6 : Nat) : Int) by omega)) (Yb qa (Ya (show (0 : Int) ≤ (↑k : Int) by omega) (Ya e1 (fun (Z1 : Nat) => (Yk 3 Z1 (Yb Z1 (Ys (IntKind.wrap IntKind.i64 (↑a.b : Int) == IntKind.wrap IntKind.i64 ((↑i : Int) + (1 : Int))) (fun Z2 => (Yb bc (Ys ((↑c.st : Int) == (1 : Int)) (fun Z3 => (Yb Z1 (Yb bc (Ya (less_any a c.w.s (HH 28 17).P fun r h => told_post h) (Yu (Ys (Rep.less a c.w.s) (fun Z4 => (Ya (Ya (show (0 : Int) ≤ (0 : Int) by omega) (show (0 : Int) < (↑(6 : Nat) : Int) by omega)) (Yb qo (Yb Z1 (Ya (Yb x.ho (Ye (List.length O))) (Ya (Ya (show (List.length O + 1) * nat_lit 12 ≤ 140737488355328 by simp only [maxLen]; omega) (show List.length O + 1 ≤ maxLen by simp only [maxLen]; omega)) (fun (Z5 : Value) => (Ya (Ya (show (0 : Int) ≤ (0 : Int) by omega) (show (0 : Int) < (↑(6 : Nat) : Int) by omega)) (Yl 1 (Yb qo (Ya (Yn (1) (6) rfl) (Ya (congrArg int hwk) (nB Z5))))))))))))) (fun Z6 => (Ya (congrArg int hwk) nA)))))))) (fun Z7 => (Ya (congrArg int hwk) nA))))) (fun Z8 => (Ya (congrArg int hwk) nA))))))))))) (fun Z9 => (show wRgM1 Γ Q [kRgM0 [1,0,1,0,0,1,0,0,1,0,0,1,1], kRgM0 [1,0,1,0,0,1,0,0,1,0], It.blk 2, It.blk 1, kRgM0 [1,0,1,0,0,1,1], kRgM0 [1,0,1,0], It.blk 0, kRgM0 [1,1]] (S.mk (frame 162 [(0, T.sl 1 U), (1, T.sa 0 qd 0 6 6), (2, T.sa 1 qa 0 6 6), (3, T.sa 2 qo 0 6 6), (9, int (0 : Int)), (10, int i)]) [(qd, Ob.cells [T.slx 7 3 (List.map (fun x => T.agg (dnC x)) x.d) x.hd, T.slx 7 4 (List.map (fun x => T.agg (dnC x)) y.d) y.hd, T.v (Value.slice none 0 0), T.v (Value.slice none 0 0), T.v (Value.slice none 0 0), T.v (Value.slice none 0 0)]), (qa, Ob.cells [T.slx 3 5 A x.ha, T.slx 3 6 (List.map (fun x => T.agg (stC x)) y.a) y.ha, T.v (Value.slice none 0 0), T.v (Value.slice none 0 0), T.v (Value.slice none 0 0), T.v (Value.slice none 0 0)]), (qo, Ob.cells [T.slx 3 7 O x.ho, T.slx 3 8 (List.map (fun x => T.agg (stC x)) y.o) y.ho, T.v (Value.slice none 0 0), T.v (Value.slice none 0 0), T.v (Value.slice none 0 0), T.v (Value.slice none 0 0)]), (0, Ob.room 7 75 (List.length (List.map (fun x => T.agg (dnC x)) x.d)) x.hd), (0, Ob.room 7 75 (List.length (List.map (fun x => T.agg (dnC x)) y.d)) y.hd), (0, Ob.room 3 51 (List.length A) x.ha), (0, Ob.room 3 51 (List.length (List.map (fun x => T.agg (stC x)) y.a)) y.ha), (0, Ob.room 3 51 (List.length O) x.ho), (0, Ob.room 3 51 (List.length (List.map (fun x => T.agg (stC x)) y.o)) y.ho)] gl) by exfalso; have := of_decide_eq_false Z9; omega)))))
theorem so20_0 (bc : Nat) (c : Cel) (x : Bz) (ho : x.o.length ≤ 100000000) (hov : ∀ a ∈ x.o, ¬ (c.st = 1 ∧ c.w.s = a))
    (nx : wRgM1 Γ Q [kRgM0 [1,0,1,0,0,1,0,0,1,0,0,1,0,0,1,1,1,1,1,0], .blk 10, .blk 3, kRgM0 [1,0,1,0,0,1,0,0,1,0,0,1,1], kRgM0 [1,0,1,0,0,1,0,0,1,0], .blk 2, .blk 1, kRgM0 [1,0,1,0,0,1,1], kRgM0 [1,0,1,0], .blk 0, kRgM0 [1,1]] ⟨frame 162 [(0, .sl 1 U), (1, .sa 0 qd 0 6 6), (2, .sa 1 qa 0 6 6), (3, .sa 2 qo 0 6 6), (9, int 0), (10, int i), (11, .ptr 9 bc 0), (18, int 0)], obsS qd qa qo x y ++ [(bc, .cells (clC c))], gl⟩) : ∀ (m k : Nat), k + m = x.o.length →
    wRgM1 Γ Q [kRgM0 [1,0,1,0,0,1,0,0,1,0,0,1,0,0,1,1,1,0,1,0], .blk 8, kRgM0 [1,0,1,0,0,1,0,0,1,0,0,1,0,0,1,1,1,1], .blk 3, kRgM0 [1,0,1,0,0,1,0,0,1,0,0,1,1], kRgM0 [1,0,1,0,0,1,0,0,1,0], .blk 2, .blk 1, kRgM0 [1,0,1,0,0,1,1], kRgM0 [1,0,1,0], .blk 0, kRgM0 [1,1]] ⟨frame 162 [(0, .sl 1 U), (1, .sa 0 qd 0 6 6), (2, .sa 1 qa 0 6 6), (3, .sa 2 qo 0 6 6), (9, int 0), (10, int i), (11, .ptr 9 bc 0), (17, int k)], obsS qd qa qo x y ++ [(bc, .cells (clC c))], gl⟩ := by
  intro m
  induction m with
  | zero =>
    intro k hk
    have hl : (Row.aggs stC x.o).length = k := by rw [Row.aggs_len]; omega
    clear hov
    unfold obsS at *
    generalize Row.aggs stC x.o = O at *
    let HH : Nat → Nat → Hint := fun  | _, _ => .no
    exact run_sound ⟨HH, [((2, 25), ([0,1,2,3,9,10,11,18], 10)), ((0, 22), ([0,1,2,3,9,10,11,17], 10))], plRgM0⟩ 400 (by kernel_rfl) (Ya (Ya (show (0 : Int) ≤ (0 : Int) by omega) (show (0 : Int) < (↑(6 : Nat) : Int) by omega)) (Yb qo (Ys (decide ((↑k : Int) < (↑(List.length O) : Int))) (fun Z0 => (show wRgM1 Γ Q [kRgM0 [1,0,1,0,0,1,0,0,1,0,0,1,0,0,1,1,1,0,1,0,0,1,0,0], It.blk 9, kRgM0 [1,0,1,0,0,1,0,0,1,0,0,1,0,0,1,1,1,0,1,0,0,1,1], kRgM0 [1,0,1,0,0,1,0,0,1,0,0,1,0,0,1,1,1,0,1,0], It.blk 8, kRgM0 [1,0,1,0,0,1,0,0,1,0,0,1,0,0,1,1,1,1], It.blk 3, kRgM0 [1,0,1,0,0,1,0,0,1,0,0,1,1], kRgM0 [1,0,1,0,0,1,0,0,1,0], It.blk 2, It.blk 1, kRgM0 [1,0,1,0,0,1,1], kRgM0 [1,0,1,0], It.blk 0, kRgM0 [1,1]] (S.mk (frame 162 [(0, T.sl 1 U), (1, T.sa 0 qd 0 6 6), (2, T.sa 1 qa 0 6 6), (3, T.sa 2 qo 0 6 6), (9, int (0 : Int)), (10, int i), (11, T.ptr 9 bc 0), (17, int k)]) [(qd, Ob.cells [T.slx 7 3 (List.map (fun x => T.agg (dnC x)) x.d) x.hd, T.slx 7 4 (List.map (fun x => T.agg (dnC x)) y.d) y.hd, T.v (Value.slice none 0 0), T.v (Value.slice none 0 0), T.v (Value.slice none 0 0), T.v (Value.slice none 0 0)]), (qa, Ob.cells [T.slx 3 5 (List.map (fun x => T.agg (stC x)) x.a) x.ha, T.slx 3 6 (List.map (fun x => T.agg (stC x)) y.a) y.ha, T.v (Value.slice none 0 0), T.v (Value.slice none 0 0), T.v (Value.slice none 0 0), T.v (Value.slice none 0 0)]), (qo, Ob.cells [T.slx 3 7 O x.ho, T.slx 3 8 (List.map (fun x => T.agg (stC x)) y.o) y.ho, T.v (Value.slice none 0 0), T.v (Value.slice none 0 0), T.v (Value.slice none 0 0), T.v (Value.slice none 0 0)]), (0, Ob.room 7 75 (List.length (List.map (fun x => T.agg (dnC x)) x.d)) x.hd), (0, Ob.room 7 75 (List.length (List.map (fun x => T.agg (dnC x)) y.d)) y.hd), (0, Ob.room 3 51 (List.length (List.map (fun x => T.agg (stC x)) x.a)) x.ha), (0, Ob.room 3 51 (List.length (List.map (fun x => T.agg (stC x)) y.a)) y.ha), (0, Ob.room 3 51 (List.length O) x.ho), (0, Ob.room 3 51 (List.length (List.map (fun x => T.agg (stC x)) y.o)) y.ho), (bc, Ob.cells (clC c))] gl) by exfalso; have := of_decide_eq_true Z0; omega)) (fun Z1 => nx))))
  | succ m ih =>
    intro k hk
    have hkl : k < x.o.length := by omega
    obtain ⟨a, hat⟩ : ∃ a, x.o[k]? = some a := ⟨_, List.getElem?_eq_getElem hkl⟩
    have hno := hov a (List.mem_of_getElem? hat)
    have e1 : (Row.aggs stC x.o)[((k : Nat) : Int).toNat]? = some (.agg (stC a)) := Row.aggs_at (by rw [ni]; exact hat)
    have hwk : IntKind.wrap .i64 ((k : Int) + 1) = ((k + 1 : Nat) : Int) := by rw [wrap_i64 (by omega) (by omega)]; omega
    have ih := ih (k + 1) (by omega)
    have hl : (Row.aggs stC x.o).length = k + (m + 1) := by rw [Row.aggs_len]; omega
    clear hov nx hkl
    unfold obsS at *
    generalize Row.aggs stC x.o = O at *
    let HH : Nat → Nat → Hint := fun | 22, 12 => .res (.agg (stC a)) | 21, 1 => .res (int (k + 1 : Nat)) | _, _ => .no
    let z0 := [(qd, Ob.cells [T.slx 7 3 (List.map (fun x => T.agg (dnC x)) x.d) x.hd, T.slx 7 4 (List.map (fun x => T.agg (dnC x)) y.d) y.hd, T.v (Value.slice none 0 0), T.v (Value.slice none 0 0), T.v (Value.slice none 0 0), T.v (Value.slice none 0 0)]), (qa, Ob.cells [T.slx 3 5 (List.map (fun x => T.agg (stC x)) x.a) x.ha, T.slx 3 6 (List.map (fun x => T.agg (stC x)) y.a) y.ha, T.v (Value.slice none 0 0), T.v (Value.slice none 0 0), T.v (Value.slice none 0 0), T.v (Value.slice none 0 0)]), (qo, Ob.cells [T.slx 3 7 O x.ho, T.slx 3 8 (List.map (fun x => T.agg (stC x)) y.o) y.ho, T.v (Value.slice none 0 0), T.v (Value.slice none 0 0), T.v (Value.slice none 0 0), T.v (Value.slice none 0 0)]), (0, Ob.room 7 75 (List.length (List.map (fun x => T.agg (dnC x)) x.d)) x.hd), (0, Ob.room 7 75 (List.length (List.map (fun x => T.agg (dnC x)) y.d)) y.hd), (0, Ob.room 3 51 (List.length (List.map (fun x => T.agg (stC x)) x.a)) x.ha), (0, Ob.room 3 51 (List.length (List.map (fun x => T.agg (stC x)) y.a)) y.ha), (0, Ob.room 3 51 (List.length O) x.ho), (0, Ob.room 3 51 (List.length (List.map (fun x => T.agg (stC x)) y.o)) y.ho), (bc, Ob.cells (clC c))]
    let z1 := sub (bd Try.f16) [1,0,1,0,0,1,0,0,1,0,0,1,0,0,1,1,1,1]
    let z2 := sub (bd Try.f16) [1,0,1,0,0,1,0,0,1,0,0,1,1]
    let z3 := fin Try.prog Try.f16 [0,1,2,3,4,5,6,7,8] Q
    let z4 := sub (bd Try.f16) [1,0,1,0,0,1,0,0,1,0]
    exact run_sound ⟨HH, [((2, 20), ([0,1,2,3,9,10,11,17], 10)), ((0, 24), ([0,1,2,3,9,10,11], 10)), ((0, 23), ([], 10))], plRgM0⟩ 400 (by kernel_rfl) (Ya (Ya (show (0 : Int) ≤ (0 : Int) by omega) (show (0 : Int) < (↑(6 : Nat) : Int) by omega)) (Yb qo (Ys (decide ((↑k : Int) < (↑(List.length O) : Int))) (fun Z0 => (Yb bc (Ys ((↑c.st : Int) == (1 : Int)) (fun Z1 => (Yb bc (Ya (Ya (show (0 : Int) ≤ (0 : Int) by omega) (show (0 : Int) < (↑(6 : Nat) : Int) by omega)) (Yb qo (Ya (show (0 : Int) ≤ (↑k : Int) by omega) (Ya e1 (Ys ((↑c.w.s.n : Int) == (↑a.n : Int) && ((↑c.w.s.b : Int) == (↑a.b : Int) && true) && ((↑c.w.s.l : Int) == (↑a.l : Int) && true)) (fun Z2 => (show TWk Try.prog Γ z3 [kRgM0 [1,0,1,0,0,1,0,0,1,0,0,1,0,0,1,1,1,0,1,0,0,1,0,0,1,0], It.blk 9, kRgM0 [1,0,1,0,0,1,0,0,1,0,0,1,0,0,1,1,1,0,1,0,0,1,1], kRgM0 [1,0,1,0,0,1,0,0,1,0,0,1,0,0,1,1,1,0,1,0], It.blk 8, It.code z1, It.blk 3, It.code z2, It.code z4, It.blk 2, It.blk 1, kRgM0 [1,0,1,0,0,1,1], kRgM0 [1,0,1,0], It.blk 0, kRgM0 [1,1]] (S.mk (frame 162 []) z0 gl) by exfalso; exact hno ⟨by have := beq_iff_eq.1 Z1; omega, of_decide_eq_true ((st_eq2 _ _).symm.trans Z2)⟩)) (fun Z3 => (Ya (congrArg int hwk) ih))))))))) (fun Z4 => (Ya (congrArg int hwk) ih))))) (fun Z5 => (show TWk Try.prog Γ z3 [It.code z1, It.blk 3, It.code z2, It.code z4, It.blk 2, It.blk 1, kRgM0 [1,0,1,0,0,1,1], kRgM0 [1,0,1,0], It.blk 0, kRgM0 [1,1]] (S.mk (frame 162 [(0, T.sl 1 U), (1, T.sa 0 qd 0 6 6), (2, T.sa 1 qa 0 6 6), (3, T.sa 2 qo 0 6 6), (9, int (0 : Int)), (10, int i), (11, T.ptr 9 bc 0)]) z0 gl) by exfalso; have := of_decide_eq_false Z5; omega)))))
theorem so14_0 (hi : i < 5) (bc : Nat) (c : Cel) (x : Bz) (Bf : Nat → Nat) (cs : Nat → Cel) (hs : Nat → Bool) (hU : ∀ j, j < i → U[j]? = some (.gp (Bf j) 0)) (hUl : i ≤ U.length)
    (hC : ∀ j, j < i → ∀ Q' : T → Obs → Glb → Prop, Q' (.tup [.agg (clC (cs j)), bool (hs j)]) [] gl → TCalls Try.prog 13 [.gp (Bf j) 0, u8 0] [] gl Q')
    (hag : ∀ j, j < i → (cs j).w.s = c.w.s → (cs j).w = c.w)
    (nx : wRgM1 Γ Q [kRgM0 [1,0,1,0,0,1,0,0,1,0,0,1,0,0,1,1,1,0,1,0], .blk 8, kRgM0 [1,0,1,0,0,1,0,0,1,0,0,1,0,0,1,1,1,1], .blk 3, kRgM0 [1,0,1,0,0,1,0,0,1,0,0,1,1], kRgM0 [1,0,1,0,0,1,0,0,1,0], .blk 2, .blk 1, kRgM0 [1,0,1,0,0,1,1], kRgM0 [1,0,1,0], .blk 0, kRgM0 [1,1]] ⟨frame 162 [(0, .sl 1 U), (1, .sa 0 qd 0 6 6), (2, .sa 1 qa 0 6 6), (3, .sa 2 qo 0 6 6), (9, int 0), (10, int i), (11, .ptr 9 bc 0), (17, int 0)], obsS qd qa qo x y ++ [(bc, .cells (clC c))], gl⟩) : ∀ (m k : Nat), k + m = i →
    wRgM1 Γ Q [kRgM0 [1,0,1,0,0,1,0,0,1,0,0,1,0,0,1,1,0,1,0], .blk 6, kRgM0 [1,0,1,0,0,1,0,0,1,0,0,1,0,0,1,1,1], .blk 3, kRgM0 [1,0,1,0,0,1,0,0,1,0,0,1,1], kRgM0 [1,0,1,0,0,1,0,0,1,0], .blk 2, .blk 1, kRgM0 [1,0,1,0,0,1,1], kRgM0 [1,0,1,0], .blk 0, kRgM0 [1,1]] ⟨frame 162 [(0, .sl 1 U), (1, .sa 0 qd 0 6 6), (2, .sa 1 qa 0 6 6), (3, .sa 2 qo 0 6 6), (9, int 0), (10, int i), (11, .ptr 9 bc 0), (14, int k)], obsS qd qa qo x y ++ [(bc, .cells (clC c))], gl⟩ := by
  intro m
  induction m with
  | zero =>
    intro k hk
    have hk : k = i := by omega
    subst hk
    clear hC hU hag
    let HH : Nat → Nat → Hint := fun  | _, _ => .no
    exact run_sound ⟨HH, [((2, 20), ([0,1,2,3,9,10,11,17], 10)), ((0, 16), ([0,1,2,3,9,10,11,14], 10))], plRgM0⟩ 400 (by kernel_rfl) (Ys (decide ((↑k : Int) < (↑k : Int))) (fun Z0 => (show wRgM1 Γ Q [kRgM0 [1,0,1,0,0,1,0,0,1,0,0,1,0,0,1,1,0,1,0,0,1,0,0], It.blk 7, kRgM0 [1,0,1,0,0,1,0,0,1,0,0,1,0,0,1,1,0,1,0,0,1,1], kRgM0 [1,0,1,0,0,1,0,0,1,0,0,1,0,0,1,1,0,1,0], It.blk 6, kRgM0 [1,0,1,0,0,1,0,0,1,0,0,1,0,0,1,1,1], It.blk 3, kRgM0 [1,0,1,0,0,1,0,0,1,0,0,1,1], kRgM0 [1,0,1,0,0,1,0,0,1,0], It.blk 2, It.blk 1, kRgM0 [1,0,1,0,0,1,1], kRgM0 [1,0,1,0], It.blk 0, kRgM0 [1,1]] (S.mk (frame 162 [(0, T.sl 1 U), (1, T.sa 0 qd 0 6 6), (2, T.sa 1 qa 0 6 6), (3, T.sa 2 qo 0 6 6), (9, int (0 : Int)), (10, int k), (11, T.ptr 9 bc 0), (14, int k)]) [(qd, Ob.cells [T.slx 7 3 (List.map (fun x => T.agg (dnC x)) x.d) x.hd, T.slx 7 4 (List.map (fun x => T.agg (dnC x)) y.d) y.hd, T.v (Value.slice none 0 0), T.v (Value.slice none 0 0), T.v (Value.slice none 0 0), T.v (Value.slice none 0 0)]), (qa, Ob.cells [T.slx 3 5 (List.map (fun x => T.agg (stC x)) x.a) x.ha, T.slx 3 6 (List.map (fun x => T.agg (stC x)) y.a) y.ha, T.v (Value.slice none 0 0), T.v (Value.slice none 0 0), T.v (Value.slice none 0 0), T.v (Value.slice none 0 0)]), (qo, Ob.cells [T.slx 3 7 (List.map (fun x => T.agg (stC x)) x.o) x.ho, T.slx 3 8 (List.map (fun x => T.agg (stC x)) y.o) y.ho, T.v (Value.slice none 0 0), T.v (Value.slice none 0 0), T.v (Value.slice none 0 0), T.v (Value.slice none 0 0)]), (0, Ob.room 7 75 (List.length (List.map (fun x => T.agg (dnC x)) x.d)) x.hd), (0, Ob.room 7 75 (List.length (List.map (fun x => T.agg (dnC x)) y.d)) y.hd), (0, Ob.room 3 51 (List.length (List.map (fun x => T.agg (stC x)) x.a)) x.ha), (0, Ob.room 3 51 (List.length (List.map (fun x => T.agg (stC x)) y.a)) y.ha), (0, Ob.room 3 51 (List.length (List.map (fun x => T.agg (stC x)) x.o)) x.ho), (0, Ob.room 3 51 (List.length (List.map (fun x => T.agg (stC x)) y.o)) y.ho), (bc, Ob.cells (clC c))] gl) by exfalso; have := of_decide_eq_true Z0; omega)) (fun Z1 => nx))
  | succ m ih =>
    intro k hk
    have hki : k < i := by omega
    have e1 : U[((k : Nat) : Int).toNat]? = some (.gp (Bf k) 0) := by rw [ni]; exact hU k hki
    have hwk : IntKind.wrap .i64 ((k : Int) + 1) = ((k + 1 : Nat) : Int) := by rw [wrap_i64 (by omega) (by omega)]; omega
    have ih := ih (k + 1) (by omega)
    have hc := hC k hki
    have hg := hag k hki
    generalize cs k = d at *
    generalize hs k = hb at *
    clear hC hU hag nx
    let HH : Nat → Nat → Hint := fun | 16, 2 => .res (.gp (Bf k) 0) | 16, 6 => toldG (.tup [.agg (clC d), bool hb]) [] [] gl | 15, 1 => .res (int (k + 1 : Nat)) | _, _ => .no
    let z0 := [(qd, Ob.cells [T.slx 7 3 (List.map (fun x => T.agg (dnC x)) x.d) x.hd, T.slx 7 4 (List.map (fun x => T.agg (dnC x)) y.d) y.hd, T.v (Value.slice none 0 0), T.v (Value.slice none 0 0), T.v (Value.slice none 0 0), T.v (Value.slice none 0 0)]), (qa, Ob.cells [T.slx 3 5 (List.map (fun x => T.agg (stC x)) x.a) x.ha, T.slx 3 6 (List.map (fun x => T.agg (stC x)) y.a) y.ha, T.v (Value.slice none 0 0), T.v (Value.slice none 0 0), T.v (Value.slice none 0 0), T.v (Value.slice none 0 0)]), (qo, Ob.cells [T.slx 3 7 (List.map (fun x => T.agg (stC x)) x.o) x.ho, T.slx 3 8 (List.map (fun x => T.agg (stC x)) y.o) y.ho, T.v (Value.slice none 0 0), T.v (Value.slice none 0 0), T.v (Value.slice none 0 0), T.v (Value.slice none 0 0)]), (0, Ob.room 7 75 (List.length (List.map (fun x => T.agg (dnC x)) x.d)) x.hd), (0, Ob.room 7 75 (List.length (List.map (fun x => T.agg (dnC x)) y.d)) y.hd), (0, Ob.room 3 51 (List.length (List.map (fun x => T.agg (stC x)) x.a)) x.ha), (0, Ob.room 3 51 (List.length (List.map (fun x => T.agg (stC x)) y.a)) y.ha), (0, Ob.room 3 51 (List.length (List.map (fun x => T.agg (stC x)) x.o)) x.ho), (0, Ob.room 3 51 (List.length (List.map (fun x => T.agg (stC x)) y.o)) y.ho), (bc, Ob.cells (clC c))]
    let z1 := sub (bd Try.f16) [1,0,1,0,0,1,0,0,1,0,0,1,0,0,1,1,1]
    let z2 := sub (bd Try.f16) [1,0,1,0,0,1,0,0,1,0,0,1,1]
    let z3 := fin Try.prog Try.f16 [0,1,2,3,4,5,6,7,8] Q
    let z4 := sub (bd Try.f16) [1,0,1,0,0,1,0,0,1,0]
    exact run_sound ⟨HH, [((2, 14), ([0,1,2,3,9,10,11,14], 10)), ((0, 19), ([0,1,2,3,9,10,11], 10)), ((0, 18), ([], 10))], plRgM0⟩ 400 (by kernel_rfl) (Ys (decide ((↑k : Int) < (↑i : Int))) (fun Z0 => (Ya (show (0 : Int) ≤ (↑k : Int) by omega) (Ya e1 (Ya (hc (HH 16 6).P (toldG_post rfl)) (Yu (fun (Z1 : Nat) => (Yk 7 Z1 (Yb Z1 (Yb bc (Ys ((↑d.w.s.n : Int) == (↑c.w.s.n : Int) && ((↑d.w.s.b : Int) == (↑c.w.s.b : Int) && true) && ((↑d.w.s.l : Int) == (↑c.w.s.l : Int) && true)) (fun Z2 => (Yb Z1 (Yb bc (Ys (!(d.w.h == c.w.h && (ByteArray.toList d.w.t == ByteArray.toList c.w.t && true))) (fun Z3 => (show TWk Try.prog Γ z3 [kRgM0 [1,0,1,0,0,1,0,0,1,0,0,1,0,0,1,1,0,1,0,0,1,0,0,1,1,0], It.blk 7, kRgM0 [1,0,1,0,0,1,0,0,1,0,0,1,0,0,1,1,0,1,0,0,1,1], kRgM0 [1,0,1,0,0,1,0,0,1,0,0,1,0,0,1,1,0,1,0], It.blk 6, It.code z1, It.blk 3, It.code z2, It.code z4, It.blk 2, It.blk 1, kRgM0 [1,0,1,0,0,1,1], kRgM0 [1,0,1,0], It.blk 0, kRgM0 [1,1]] (S.mk (frame 162 []) z0 gl) by exfalso; have e := hg (of_decide_eq_true ((st_eq2 _ _).symm.trans Z2)); rw [e] at Z3; simp at Z3)) (fun Z4 => (Ya (congrArg int hwk) ih)))))) (fun Z5 => (Ya (congrArg int hwk) ih)))))))))))) (fun Z6 => (show TWk Try.prog Γ z3 [It.code z1, It.blk 3, It.code z2, It.code z4, It.blk 2, It.blk 1, kRgM0 [1,0,1,0,0,1,1], kRgM0 [1,0,1,0], It.blk 0, kRgM0 [1,1]] (S.mk (frame 162 [(0, T.sl 1 U), (1, T.sa 0 qd 0 6 6), (2, T.sa 1 qa 0 6 6), (3, T.sa 2 qo 0 6 6), (9, int (0 : Int)), (10, int i), (11, T.ptr 9 bc 0)]) z0 gl) by exfalso; have := of_decide_eq_false Z6; omega)))
theorem so9_0 (bc : Nat) (c : Cel) (x : Bz) (hd : x.d.length ≤ 100000000) (hdn : ∀ d ∈ x.d, Rep.less c.w.s d.1 = false)
    (nx : wRgM1 Γ Q [kRgM0 [1,0,1,0,0,1,0,0,1,0,0,1,0,0,1,1,0,1,0], .blk 6, kRgM0 [1,0,1,0,0,1,0,0,1,0,0,1,0,0,1,1,1], .blk 3, kRgM0 [1,0,1,0,0,1,0,0,1,0,0,1,1], kRgM0 [1,0,1,0,0,1,0,0,1,0], .blk 2, .blk 1, kRgM0 [1,0,1,0,0,1,1], kRgM0 [1,0,1,0], .blk 0, kRgM0 [1,1]] ⟨frame 162 [(0, .sl 1 U), (1, .sa 0 qd 0 6 6), (2, .sa 1 qa 0 6 6), (3, .sa 2 qo 0 6 6), (9, int 0), (10, int i), (11, .ptr 9 bc 0), (14, int 0)], obsS qd qa qo x y ++ [(bc, .cells (clC c))], gl⟩) : ∀ (m k : Nat), k + m = x.d.length →
    wRgM1 Γ Q [kRgM0 [1,0,1,0,0,1,0,0,1,0,0,1,0,0,1,0,1,0], .blk 4, kRgM0 [1,0,1,0,0,1,0,0,1,0,0,1,0,0,1,1], .blk 3, kRgM0 [1,0,1,0,0,1,0,0,1,0,0,1,1], kRgM0 [1,0,1,0,0,1,0,0,1,0], .blk 2, .blk 1, kRgM0 [1,0,1,0,0,1,1], kRgM0 [1,0,1,0], .blk 0, kRgM0 [1,1]] ⟨frame 162 [(0, .sl 1 U), (1, .sa 0 qd 0 6 6), (2, .sa 1 qa 0 6 6), (3, .sa 2 qo 0 6 6), (9, int 0), (10, int i), (11, .ptr 9 bc 0), (13, int k)], obsS qd qa qo x y ++ [(bc, .cells (clC c))], gl⟩ := by
  intro m
  induction m with
  | zero =>
    intro k hk
    have hl : (Row.aggs dnC x.d).length = k := by rw [Row.aggs_len]; omega
    clear hdn
    unfold obsS at *
    generalize Row.aggs dnC x.d = O at *
    let HH : Nat → Nat → Hint := fun  | _, _ => .no
    exact run_sound ⟨HH, [((2, 14), ([0,1,2,3,9,10,11,14], 10)), ((0, 11), ([0,1,2,3,9,10,11,13], 10))], plRgM0⟩ 400 (by kernel_rfl) (Ya (Ya (show (0 : Int) ≤ (0 : Int) by omega) (show (0 : Int) < (↑(6 : Nat) : Int) by omega)) (Yb qd (Ys (decide ((↑k : Int) < (↑(List.length O) : Int))) (fun Z0 => (show wRgM1 Γ Q [kRgM0 [1,0,1,0,0,1,0,0,1,0,0,1,0,0,1,0,1,0,0,1,0,0], It.blk 5, kRgM0 [1,0,1,0,0,1,0,0,1,0,0,1,0,0,1,0,1,0,0,1,1], kRgM0 [1,0,1,0,0,1,0,0,1,0,0,1,0,0,1,0,1,0], It.blk 4, kRgM0 [1,0,1,0,0,1,0,0,1,0,0,1,0,0,1,1], It.blk 3, kRgM0 [1,0,1,0,0,1,0,0,1,0,0,1,1], kRgM0 [1,0,1,0,0,1,0,0,1,0], It.blk 2, It.blk 1, kRgM0 [1,0,1,0,0,1,1], kRgM0 [1,0,1,0], It.blk 0, kRgM0 [1,1]] (S.mk (frame 162 [(0, T.sl 1 U), (1, T.sa 0 qd 0 6 6), (2, T.sa 1 qa 0 6 6), (3, T.sa 2 qo 0 6 6), (9, int (0 : Int)), (10, int i), (11, T.ptr 9 bc 0), (13, int k)]) [(qd, Ob.cells [T.slx 7 3 O x.hd, T.slx 7 4 (List.map (fun x => T.agg (dnC x)) y.d) y.hd, T.v (Value.slice none 0 0), T.v (Value.slice none 0 0), T.v (Value.slice none 0 0), T.v (Value.slice none 0 0)]), (qa, Ob.cells [T.slx 3 5 (List.map (fun x => T.agg (stC x)) x.a) x.ha, T.slx 3 6 (List.map (fun x => T.agg (stC x)) y.a) y.ha, T.v (Value.slice none 0 0), T.v (Value.slice none 0 0), T.v (Value.slice none 0 0), T.v (Value.slice none 0 0)]), (qo, Ob.cells [T.slx 3 7 (List.map (fun x => T.agg (stC x)) x.o) x.ho, T.slx 3 8 (List.map (fun x => T.agg (stC x)) y.o) y.ho, T.v (Value.slice none 0 0), T.v (Value.slice none 0 0), T.v (Value.slice none 0 0), T.v (Value.slice none 0 0)]), (0, Ob.room 7 75 (List.length O) x.hd), (0, Ob.room 7 75 (List.length (List.map (fun x => T.agg (dnC x)) y.d)) y.hd), (0, Ob.room 3 51 (List.length (List.map (fun x => T.agg (stC x)) x.a)) x.ha), (0, Ob.room 3 51 (List.length (List.map (fun x => T.agg (stC x)) y.a)) y.ha), (0, Ob.room 3 51 (List.length (List.map (fun x => T.agg (stC x)) x.o)) x.ho), (0, Ob.room 3 51 (List.length (List.map (fun x => T.agg (stC x)) y.o)) y.ho), (bc, Ob.cells (clC c))] gl) by exfalso; have := of_decide_eq_true Z0; omega)) (fun Z1 => nx))))
  | succ m ih =>
    intro k hk
    have hkl : k < x.d.length := by omega
    obtain ⟨a, hat⟩ : ∃ a, x.d[k]? = some a := ⟨_, List.getElem?_eq_getElem hkl⟩
    have hno := hdn a (List.mem_of_getElem? hat)
    have e1 : (Row.aggs dnC x.d)[((k : Nat) : Int).toNat]? = some (.agg (dnC a)) := Row.aggs_at (by rw [ni]; exact hat)
    have hwk : IntKind.wrap .i64 ((k : Int) + 1) = ((k + 1 : Nat) : Int) := by rw [wrap_i64 (by omega) (by omega)]; omega
    have ih := ih (k + 1) (by omega)
    have hl : (Row.aggs dnC x.d).length = k + (m + 1) := by rw [Row.aggs_len]; omega
    clear hdn nx hkl
    unfold obsS at *
    generalize Row.aggs dnC x.d = O at *
    let HH : Nat → Nat → Hint := fun | 11, 8 => .res (.agg (dnC a)) | 11, 11 => told (bool false) [] [] | 10, 1 => .res (int (k + 1 : Nat)) | _, _ => .no
    exact run_sound ⟨HH, [((2, 9), ([0,1,2,3,9,10,11,13], 10)), ((0, 13), ([0,1,2,3,9,10,11], 10))], fun | 11 => some ⟨[0,9], [11], .take true [0,1,2,3,4,5,6,7,8,9,10] (.one 11 .done)⟩ | n => plRgM0 n⟩ 400 (by kernel_rfl) (Ya (Ya (show (0 : Int) ≤ (0 : Int) by omega) (show (0 : Int) < (↑(6 : Nat) : Int) by omega)) (Yb qd (Ys (decide ((↑k : Int) < (↑(List.length O) : Int))) (fun Z0 => (Yb bc (Ya (Ya (show (0 : Int) ≤ (0 : Int) by omega) (show (0 : Int) < (↑(6 : Nat) : Int) by omega)) (Yb qd (Ya (show (0 : Int) ≤ (↑k : Int) by omega) (Ya e1 (Ya (less_any c.w.s a.fst (HH 11 11).P fun r h => told_post (h.trans (congrArg bool hno))) (Yu (Ya (congrArg int hwk) ih))))))))) (fun Z1 => (show wRgM1 Γ Q [kRgM0 [1,0,1,0,0,1,0,0,1,0,0,1,0,0,1,1], It.blk 3, kRgM0 [1,0,1,0,0,1,0,0,1,0,0,1,1], kRgM0 [1,0,1,0,0,1,0,0,1,0], It.blk 2, It.blk 1, kRgM0 [1,0,1,0,0,1,1], kRgM0 [1,0,1,0], It.blk 0, kRgM0 [1,1]] (S.mk (frame 162 [(0, T.sl 1 U), (1, T.sa 0 qd 0 6 6), (2, T.sa 1 qa 0 6 6), (3, T.sa 2 qo 0 6 6), (9, int (0 : Int)), (10, int i), (11, T.ptr 9 bc 0)]) [(qd, Ob.cells [T.slx 7 3 O x.hd, T.slx 7 4 (List.map (fun x => T.agg (dnC x)) y.d) y.hd, T.v (Value.slice none 0 0), T.v (Value.slice none 0 0), T.v (Value.slice none 0 0), T.v (Value.slice none 0 0)]), (qa, Ob.cells [T.slx 3 5 (List.map (fun x => T.agg (stC x)) x.a) x.ha, T.slx 3 6 (List.map (fun x => T.agg (stC x)) y.a) y.ha, T.v (Value.slice none 0 0), T.v (Value.slice none 0 0), T.v (Value.slice none 0 0), T.v (Value.slice none 0 0)]), (qo, Ob.cells [T.slx 3 7 (List.map (fun x => T.agg (stC x)) x.o) x.ho, T.slx 3 8 (List.map (fun x => T.agg (stC x)) y.o) y.ho, T.v (Value.slice none 0 0), T.v (Value.slice none 0 0), T.v (Value.slice none 0 0), T.v (Value.slice none 0 0)]), (0, Ob.room 7 75 (List.length O) x.hd), (0, Ob.room 7 75 (List.length (List.map (fun x => T.agg (dnC x)) y.d)) y.hd), (0, Ob.room 3 51 (List.length (List.map (fun x => T.agg (stC x)) x.a)) x.ha), (0, Ob.room 3 51 (List.length (List.map (fun x => T.agg (stC x)) y.a)) y.ha), (0, Ob.room 3 51 (List.length (List.map (fun x => T.agg (stC x)) x.o)) x.ho), (0, Ob.room 3 51 (List.length (List.map (fun x => T.agg (stC x)) y.o)) y.ho), (bc, Ob.cells (clC c))] gl) by exfalso; have := of_decide_eq_false Z1; omega)))))
end
section
variable (Γ : Ctx) (qd qa qo : Nat) (U : List T) (gl : Glb) (Q : T → Obs → Glb → Prop) (y : Bz)
theorem so5_0 (n : Nat) (hn : n ≤ 5) (Bf : Nat → Nat) (cs : Nat → Cel) (hs : Nat → Bool) (hU : ∀ j, j < n → U[j]? = some (.gp (Bf j) 0)) (hUl : U.length = n)
    (hC : ∀ j, j < n → ∀ Q' : T → Obs → Glb → Prop, Q' (.tup [.agg (clC (cs j)), bool (hs j)]) [] gl → TCalls Try.prog 13 [.gp (Bf j) 0, u8 0] [] gl Q') : ∀ (m i : Nat) (x : Bz), i + m = n → SoOk n cs x → x.d.length ≤ 1000000 → x.a.length ≤ 1000000 → x.o.length + m * x.a.length ≤ 50000000 →
    (∀ x', Grw (m * x.a.length) x x' → wRgM1 Γ Q [kRgM0 [1,0,1,0], .blk 0, kRgM0 [1,1]] ⟨frame 162 [(0, .sl 1 U), (1, .sa 0 qd 0 6 6), (2, .sa 1 qa 0 6 6), (3, .sa 2 qo 0 6 6), (9, int 1)], obsS qd qa qo x' y, gl⟩) →
    wRgM1 Γ Q [kRgM0 [1,0,1,0,0,1,0,0,1,0], .blk 2, .blk 1, kRgM0 [1,0,1,0,0,1,1], kRgM0 [1,0,1,0], .blk 0, kRgM0 [1,1]] ⟨frame 162 [(0, .sl 1 U), (1, .sa 0 qd 0 6 6), (2, .sa 1 qa 0 6 6), (3, .sa 2 qo 0 6 6), (9, int 0), (10, int i)], obsS qd qa qo x y, gl⟩ := by
  intro m
  induction m with
  | zero =>
    intro i x hi ok hd ha ho nx
    have nx := nx x ((Grw.refl x).mono (by omega))
    have hi : i = n := by omega
    subst hi
    clear hU hC ok
    unfold obsS at *
    let HH : Nat → Nat → Hint := fun | 3, 1 => .res (int 1) | _, _ => .no
    exact run_sound ⟨HH, [((2, 2), ([0,1,2,3,9], 9)), ((0, 7), ([0,1,2,3,9,10], 9))], plRgM0⟩ 400 (by kernel_rfl) (Ys (decide ((↑i : Int) < (↑(List.length U) : Int))) (fun Z0 => (show wRgM1 Γ Q [kRgM0 [1,0,1,0,0,1,0,0,1,0,0,1,0,0], It.blk 3, kRgM0 [1,0,1,0,0,1,0,0,1,0,0,1,1], kRgM0 [1,0,1,0,0,1,0,0,1,0], It.blk 2, It.blk 1, kRgM0 [1,0,1,0,0,1,1], kRgM0 [1,0,1,0], It.blk 0, kRgM0 [1,1]] (S.mk (frame 162 [(0, T.sl 1 U), (1, T.sa 0 qd 0 6 6), (2, T.sa 1 qa 0 6 6), (3, T.sa 2 qo 0 6 6), (9, int (0 : Int)), (10, int i)]) [(qd, Ob.cells [T.slx 7 3 (List.map (fun x => T.agg (dnC x)) x.d) x.hd, T.slx 7 4 (List.map (fun x => T.agg (dnC x)) y.d) y.hd, T.v (Value.slice none 0 0), T.v (Value.slice none 0 0), T.v (Value.slice none 0 0), T.v (Value.slice none 0 0)]), (qa, Ob.cells [T.slx 3 5 (List.map (fun x => T.agg (stC x)) x.a) x.ha, T.slx 3 6 (List.map (fun x => T.agg (stC x)) y.a) y.ha, T.v (Value.slice none 0 0), T.v (Value.slice none 0 0), T.v (Value.slice none 0 0), T.v (Value.slice none 0 0)]), (qo, Ob.cells [T.slx 3 7 (List.map (fun x => T.agg (stC x)) x.o) x.ho, T.slx 3 8 (List.map (fun x => T.agg (stC x)) y.o) y.ho, T.v (Value.slice none 0 0), T.v (Value.slice none 0 0), T.v (Value.slice none 0 0), T.v (Value.slice none 0 0)]), (0, Ob.room 7 75 (List.length (List.map (fun x => T.agg (dnC x)) x.d)) x.hd), (0, Ob.room 7 75 (List.length (List.map (fun x => T.agg (dnC x)) y.d)) y.hd), (0, Ob.room 3 51 (List.length (List.map (fun x => T.agg (stC x)) x.a)) x.ha), (0, Ob.room 3 51 (List.length (List.map (fun x => T.agg (stC x)) y.a)) y.ha), (0, Ob.room 3 51 (List.length (List.map (fun x => T.agg (stC x)) x.o)) x.ho), (0, Ob.room 3 51 (List.length (List.map (fun x => T.agg (stC x)) y.o)) y.ho)] gl) by exfalso; have := of_decide_eq_true Z0; omega)) (fun Z1 => (Yb (int (1 : Int)) nx)))
  | succ m ih =>
    intro i x hi ok hd ha ho nx
    have hin : i < n := by omega
    have e1 : U[((i : Nat) : Int).toNat]? = some (.gp (Bf i) 0) := by rw [ni]; exact hU i hin
    have hc := hC i hin
    have hm : (m + 1) * x.a.length = m * x.a.length + x.a.length := by rw [Nat.add_mul, Nat.one_mul]
    have lp := fun bc => so9_0 Γ qd qa qo U gl Q i y bc (cs i) x (by omega) (ok.dn i hin)
      (so14_0 Γ qd qa qo U gl Q i y (by omega) bc (cs i) x Bf cs hs (fun j hj => hU j (by omega)) (by omega) (fun j hj => hC j (by omega)) (fun j hj => ok.ag j i (by omega) hin)
        (so20_0 Γ qd qa qo U gl Q i y bc (cs i) x (by omega) (fun a hx => ok.ov i hin a (.inl hx))
          (so25_0 Γ qd qa qo U gl Q i y (by omega) bc (cs i) x.a.length 0 x (by omega) (by omega) ha
            fun x1 g1 => ih (i + 1) x1 (by omega) (ok.grw g1) (g1.d ▸ hd) (g1.a ▸ ha) (by have := g1.len; rw [g1.a]; omega) fun x2 g2 => nx x2 ((g1.tr g2).mono (by rw [g1.a]; omega))) x.o.length 0 (by omega)) i 0 (by omega)) x.d.length 0 (by omega)
    generalize cs i = c at *
    generalize hs i = hb at *
    clear ih hU hC ok nx
    unfold obsS at *
    let HH : Nat → Nat → Hint := fun | 7, 2 => .res (.gp (Bf i) 0) | 7, 6 => toldG (.tup [.agg (clC c), bool hb]) [] [] gl | _, _ => .no
    exact run_sound ⟨HH, [((2, 9), ([0,1,2,3,9,10,11,13], 10)), ((0, 3), ([0,1,2,3,9], 9))], plRgM0⟩ 400 (by kernel_rfl) (Ys (decide ((↑i : Int) < (↑(List.length U) : Int))) (fun Z0 => (Ya (show (0 : Int) ≤ (↑i : Int) by omega) (Ya e1 (Ya (hc (HH 7 6).P (toldG_post rfl)) (Yu (fun (Z1 : Nat) => (Yk 7 Z1 (lp Z1)))))))) (fun Z2 => (show wRgM1 Γ Q [kRgM0 [1,0,1,0,0,1,1], kRgM0 [1,0,1,0], It.blk 0, kRgM0 [1,1]] (S.mk (frame 162 [(0, T.sl 1 U), (1, T.sa 0 qd 0 6 6), (2, T.sa 1 qa 0 6 6), (3, T.sa 2 qo 0 6 6), (9, int (0 : Int))]) [(qd, Ob.cells [T.slx 7 3 (List.map (fun x => T.agg (dnC x)) x.d) x.hd, T.slx 7 4 (List.map (fun x => T.agg (dnC x)) y.d) y.hd, T.v (Value.slice none 0 0), T.v (Value.slice none 0 0), T.v (Value.slice none 0 0), T.v (Value.slice none 0 0)]), (qa, Ob.cells [T.slx 3 5 (List.map (fun x => T.agg (stC x)) x.a) x.ha, T.slx 3 6 (List.map (fun x => T.agg (stC x)) y.a) y.ha, T.v (Value.slice none 0 0), T.v (Value.slice none 0 0), T.v (Value.slice none 0 0), T.v (Value.slice none 0 0)]), (qo, Ob.cells [T.slx 3 7 (List.map (fun x => T.agg (stC x)) x.o) x.ho, T.slx 3 8 (List.map (fun x => T.agg (stC x)) y.o) y.ho, T.v (Value.slice none 0 0), T.v (Value.slice none 0 0), T.v (Value.slice none 0 0), T.v (Value.slice none 0 0)]), (0, Ob.room 7 75 (List.length (List.map (fun x => T.agg (dnC x)) x.d)) x.hd), (0, Ob.room 7 75 (List.length (List.map (fun x => T.agg (dnC x)) y.d)) y.hd), (0, Ob.room 3 51 (List.length (List.map (fun x => T.agg (stC x)) x.a)) x.ha), (0, Ob.room 3 51 (List.length (List.map (fun x => T.agg (stC x)) y.a)) y.ha), (0, Ob.room 3 51 (List.length (List.map (fun x => T.agg (stC x)) x.o)) x.ho), (0, Ob.room 3 51 (List.length (List.map (fun x => T.agg (stC x)) y.o)) y.ho)] gl) by exfalso; have := of_decide_eq_false Z2; omega)))
end
end X20
end Go.Proofs.Ytafcbipmmjegcaa.Vm
