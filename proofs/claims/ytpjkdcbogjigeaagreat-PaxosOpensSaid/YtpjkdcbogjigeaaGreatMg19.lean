/- Texts of this claim: VE, VF, Acc0, Acc1. -/
import Derived.Test.YtpjkdcbogjigeaaGreatMg18
import Derived.Test.YtpjkdcbogjigeaaGreatMg16
import Derived.Test.YtpjkdcbogjigeaaGreatMg17
namespace Go.Proofs.YtpjkdcbogjigeaaGreat.Vm
open Go Go.RowKit
set_option maxRecDepth 100000
namespace X5
open View (Mem VS atN atI ready)
def livesB (L M : Nat → Nat) : Bool := (L 0 : Int) == (M 0 : Int) && ((L 1 : Int) == (M 1 : Int) && ((L 2 : Int) == (M 2 : Int) && ((L 3 : Int) == (M 3 : Int) && ((L 4 : Int) == (M 4 : Int) && ((L 5 : Int) == (M 5 : Int) && ((L 6 : Int) == (M 6 : Int) && ((L 7 : Int) == (M 7 : Int) && true)))))))
end X5
end Go.Proofs.YtpjkdcbogjigeaaGreat.Vm
namespace Go.Proofs.YtpjkdcbogjigeaaGreat.Vm
open Go Go.RowKit
set_option maxRecDepth 100000
namespace X5
open View (Mem VS atN atI ready)
def u8s (l : List Nat) : List T := l.map fun n : Nat => u8 n
def firstM (n : Nat) : List Mem := (List.range n).map fun j => ⟨j + 1, 1, true⟩
def firstL (n : Nat) : Nat → Nat := fun i => if i < n then 1 else 0
theorem firstM_len (n : Nat) : (firstM n).length = n := by simp [firstM]
theorem firstM_succ (n : Nat) : mems (firstM (n + 1)) = mems (firstM n) ++ [.agg [u8 (n + 1 : Nat), u8 1, bool true]] := by
  rw [firstM, List.range_succ, List.map_append, mems, List.map_append]; rfl
def obsF (b0 b1 : Nat) (n : Nat) (hd : Value) : Obs := [(b0, .cells [u32 0, .v nilS, u8 0, u8 0, u8 0, u8 0, u8 0, u8 0, u8 0, u8 0]), (b1, .cells (vwT 1 (.slx 3 2 (mems (firstM n)) hd) (firstL n))), (0, .room 3 145 (mems (firstM n)).length hd)]
theorem first_set (j : Nat) (hj : j < 8) (t : T) : (vwT 1 t (firstL j)).take (2 + (j : Int).toNat * 1) ++ List.map T.v #[Value.int .u8 1].toList ++ (vwT 1 t (firstL j)).drop (2 + (j : Int).toNat * 1 + 1) = vwT 1 t (firstL (j + 1)) := by
  have h8 : j = 0 ∨ j = 1 ∨ j = 2 ∨ j = 3 ∨ j = 4 ∨ j = 5 ∨ j = 6 ∨ j = 7 := by omega
  rcases h8 with rfl | rfl | rfl | rfl | rfl | rfl | rfl | rfl <;> rfl
theorem first_loop (Γ : Ctx) (b0 b1 n : Nat) (hn : n ≤ 8) (Q : T → Obs → Glb → Prop) (hQ : ∀ r, r = .tup [.agg (viewC ⟨1, firstM n, firstL n⟩), .v (.int .i64 0)] → Q r [] none_) : ∀ (c j : Nat) (hd : Value), j + c = n →
    TWk Tryz.prog Γ (fin Tryz.prog Tryz.f39 [] Q) [.code (sub (bd Tryz.f39) [1, 1, 1, 0, 1, 0]), .blk 0, .code (sub (bd Tryz.f39) [1, 1, 1, 1])] ⟨frame 32 [(2, .ptr 0 b0 0), (4, .ptr 1 b1 0), (14, int n), (15, int j)], obsF b0 b1 j hd, none_⟩ := by
  intro c
  induction c with
  | zero =>
    intro j hd h1
    refine run_sound (⟨fun _ _ => .no, [((2, 5), ([2, 4, 14, 15], 3))], fun _ => none⟩) 400 (B := bsplit (decide ((↑j : Int) < (↑n : Int))) (b1 = b1 ∧ (hd = hd ∧ List.length (mems (firstM j)) = List.length (mems (firstM j))) ∧ Fits (List.length (mems (firstM j)) + 1) (nat_lit 3) ∧ ∀ (x : Value), (1 = nat_lit 1 ∧ List.all [T.slx 3 2 (mems (firstM j) ++ [T.agg [u8 (IntKind.wrap IntKind.u8 (IntKind.wrap IntKind.i64 ((↑j : Int) + (1 : Int)))), u8 (1 : Int), bool true]]) x] T.one = true) ∧ b1 = b1 ∧ 1 + nat_lit 1 ≤ 10 ∧ ((0 : Int) ≤ (↑j : Int) ∧ (↑j : Int) < (↑(8 : Nat) : Int)) ∧ (1 = nat_lit 1 ∧ List.all (List.map T.v (Array.toList #[Value.int IntKind.u8 (1 : Int)])) T.one = true) ∧ b1 = b1 ∧ 2 + Int.toNat (↑j : Int) * nat_lit 1 + nat_lit 1 ≤ 10 ∧ TWk Tryz.prog Γ (fin Tryz.prog Tryz.f39 [] Q) [It.code (sub (bd Tryz.f39) [1, 1, 1, 0, 1, 0]), It.blk 0, It.code (sub (bd Tryz.f39) [1, 1, 1, 1])] { fr := frame 32 [(2, T.ptr 0 b0 0), (4, T.ptr 1 b1 0), (14, int n), (15, int (IntKind.wrap IntKind.i64 ((↑j : Int) + (1 : Int))))], ob := [(b0, Ob.cells [u32 (0 : Int), T.v (Value.slice none 0 0), u8 (0 : Int), u8 (0 : Int), u8 (0 : Int), u8 (0 : Int), u8 (0 : Int), u8 (0 : Int), u8 (0 : Int), u8 (0 : Int)]), (b1, Ob.cells (List.take (2 + Int.toNat (↑j : Int) * nat_lit 1) [u32 (1 : Int), T.slx 3 2 (mems (firstM j) ++ [T.agg [u8 (IntKind.wrap IntKind.u8 (IntKind.wrap IntKind.i64 ((↑j : Int) + (1 : Int)))), u8 (1 : Int), bool true]]) x, u8 (firstL j 0), u8 (firstL j 1), u8 (firstL j 2), u8 (firstL j 3), u8 (firstL j 4), u8 (firstL j 5), u8 (firstL j 6), u8 (firstL j 7)] ++ List.map T.v (Array.toList #[Value.int IntKind.u8 (1 : Int)]) ++ List.drop (2 + Int.toNat (↑j : Int) * nat_lit 1 + 1) [u32 (1 : Int), T.slx 3 2 (mems (firstM j) ++ [T.agg [u8 (IntKind.wrap IntKind.u8 (IntKind.wrap IntKind.i64 ((↑j : Int) + (1 : Int)))), u8 (1 : Int), bool true]]) x, u8 (firstL j 0), u8 (firstL j 1), u8 (firstL j 2), u8 (firstL j 3), u8 (firstL j 4), u8 (firstL j 5), u8 (firstL j 6), u8 (firstL j 7)])), (0, Ob.room 3 145 (List.length (mems (firstM j) ++ [T.agg [u8 (IntKind.wrap IntKind.u8 (IntKind.wrap IntKind.i64 ((↑j : Int) + (1 : Int)))), u8 (1 : Int), bool true]])) x)], gl := fun x => none }) (b1 = b1 ∧ (10 = nat_lit 10 ∧ List.all [u32 (1 : Int), T.slx 3 2 (mems (firstM j)) hd, u8 (firstL j 0), u8 (firstL j 1), u8 (firstL j 2), u8 (firstL j 3), u8 (firstL j 4), u8 (firstL j 5), u8 (firstL j 6), u8 (firstL j 7)] T.one = true) ∧ b0 = b0 ∧ 0 + nat_lit 10 ≤ 10 ∧ b0 = b0 ∧ Q (T.tup [T.agg [u32 (1 : Int), T.sl 3 (mems (firstM j)), u8 (firstL j 0), u8 (firstL j 1), u8 (firstL j 2), u8 (firstL j 3), u8 (firstL j 4), u8 (firstL j 5), u8 (firstL j 6), u8 (firstL j 7)], int (0 : Int)]) [] fun x => none)) (by kernel_rfl) ?_
    have e : j = n := by omega
    subst e
    exact bsplit_mk (fun h => by simp at h) (fun _ => ⟨rfl, ⟨rfl, rfl⟩, rfl, by decide, rfl, hQ _ rfl⟩)
  | succ c ih =>
    intro j hd h1
    refine run_sound (⟨fun _ _ => .no, [((2, 5), ([2, 4, 14, 15], 3))], fun _ => none⟩) 400 (B := bsplit (decide ((↑j : Int) < (↑n : Int))) (b1 = b1 ∧ (hd = hd ∧ List.length (mems (firstM j)) = List.length (mems (firstM j))) ∧ Fits (List.length (mems (firstM j)) + 1) (nat_lit 3) ∧ ∀ (x : Value), (1 = nat_lit 1 ∧ List.all [T.slx 3 2 (mems (firstM j) ++ [T.agg [u8 (IntKind.wrap IntKind.u8 (IntKind.wrap IntKind.i64 ((↑j : Int) + (1 : Int)))), u8 (1 : Int), bool true]]) x] T.one = true) ∧ b1 = b1 ∧ 1 + nat_lit 1 ≤ 10 ∧ ((0 : Int) ≤ (↑j : Int) ∧ (↑j : Int) < (↑(8 : Nat) : Int)) ∧ (1 = nat_lit 1 ∧ List.all (List.map T.v (Array.toList #[Value.int IntKind.u8 (1 : Int)])) T.one = true) ∧ b1 = b1 ∧ 2 + Int.toNat (↑j : Int) * nat_lit 1 + nat_lit 1 ≤ 10 ∧ TWk Tryz.prog Γ (fin Tryz.prog Tryz.f39 [] Q) [It.code (sub (bd Tryz.f39) [1, 1, 1, 0, 1, 0]), It.blk 0, It.code (sub (bd Tryz.f39) [1, 1, 1, 1])] { fr := frame 32 [(2, T.ptr 0 b0 0), (4, T.ptr 1 b1 0), (14, int n), (15, int (IntKind.wrap IntKind.i64 ((↑j : Int) + (1 : Int))))], ob := [(b0, Ob.cells [u32 (0 : Int), T.v (Value.slice none 0 0), u8 (0 : Int), u8 (0 : Int), u8 (0 : Int), u8 (0 : Int), u8 (0 : Int), u8 (0 : Int), u8 (0 : Int), u8 (0 : Int)]), (b1, Ob.cells (List.take (2 + Int.toNat (↑j : Int) * nat_lit 1) [u32 (1 : Int), T.slx 3 2 (mems (firstM j) ++ [T.agg [u8 (IntKind.wrap IntKind.u8 (IntKind.wrap IntKind.i64 ((↑j : Int) + (1 : Int)))), u8 (1 : Int), bool true]]) x, u8 (firstL j 0), u8 (firstL j 1), u8 (firstL j 2), u8 (firstL j 3), u8 (firstL j 4), u8 (firstL j 5), u8 (firstL j 6), u8 (firstL j 7)] ++ List.map T.v (Array.toList #[Value.int IntKind.u8 (1 : Int)]) ++ List.drop (2 + Int.toNat (↑j : Int) * nat_lit 1 + 1) [u32 (1 : Int), T.slx 3 2 (mems (firstM j) ++ [T.agg [u8 (IntKind.wrap IntKind.u8 (IntKind.wrap IntKind.i64 ((↑j : Int) + (1 : Int)))), u8 (1 : Int), bool true]]) x, u8 (firstL j 0), u8 (firstL j 1), u8 (firstL j 2), u8 (firstL j 3), u8 (firstL j 4), u8 (firstL j 5), u8 (firstL j 6), u8 (firstL j 7)])), (0, Ob.room 3 145 (List.length (mems (firstM j) ++ [T.agg [u8 (IntKind.wrap IntKind.u8 (IntKind.wrap IntKind.i64 ((↑j : Int) + (1 : Int)))), u8 (1 : Int), bool true]])) x)], gl := fun x => none }) (b1 = b1 ∧ (10 = nat_lit 10 ∧ List.all [u32 (1 : Int), T.slx 3 2 (mems (firstM j)) hd, u8 (firstL j 0), u8 (firstL j 1), u8 (firstL j 2), u8 (firstL j 3), u8 (firstL j 4), u8 (firstL j 5), u8 (firstL j 6), u8 (firstL j 7)] T.one = true) ∧ b0 = b0 ∧ 0 + nat_lit 10 ≤ 10 ∧ b0 = b0 ∧ Q (T.tup [T.agg [u32 (1 : Int), T.sl 3 (mems (firstM j)), u8 (firstL j 0), u8 (firstL j 1), u8 (firstL j 2), u8 (firstL j 3), u8 (firstL j 4), u8 (firstL j 5), u8 (firstL j 6), u8 (firstL j 7)], int (0 : Int)]) [] fun x => none)) (by kernel_rfl) ?_
    have hw : IntKind.u8.wrap (IntKind.i64.wrap ((j : Int) + 1)) = ((j + 1 : Nat) : Int) := by rw [wrap_i64 (by omega) (by omega), IntWalk.u8_in _ (by omega)]; omega
    have hw2 : IntKind.i64.wrap ((j : Int) + 1) = ((j + 1 : Nat) : Int) := by rw [wrap_i64 (by omega) (by omega)]; omega
    have nx := fun x => ih (j + 1) x (by omega)
    simp only [obsF, ← first_set j (by omega), firstM_succ] at nx
    rw [hw, hw2]
    refine bsplit_mk (fun _ => ⟨rfl, ⟨rfl, rfl⟩, ?_, fun x => ⟨⟨rfl, rfl⟩, rfl, by decide, ⟨by omega, by omega⟩, ⟨rfl, rfl⟩, rfl, by simp; omega, nx x⟩⟩) (fun h => by simp at h; omega)
    simp [mems_len, firstM_len, Fits, maxLen]; omega
theorem first_any (n : Int) (Q : T → Obs → Glb → Prop) (hQ0 : n < 1 ∨ 8 < n → Q (.tup [.agg [u32 0, .v nilS, u8 0, u8 0, u8 0, u8 0, u8 0, u8 0, u8 0, u8 0], int 1]) [] none_)
    (hQ : ∀ k : Nat, n = k → 1 ≤ k → k ≤ 8 → Q (.tup [.agg (viewC ⟨1, firstM k, firstL k⟩), int 0]) [] none_) : TCalls Tryz.prog 39 [int n] [] none_ Q := by
  refine TCalls.of Tryz.func39 rfl (CanCall.of Tryz.func39 rfl (by decide)) [] fun Γ => ?_
  refine run_sound (⟨fun _ _ => .no, [((2, 5), ([2, 4, 14, 15], 2))], fun _ => none⟩) 400 (B := ∀ (b : Nat), bsplit (decide (n < (1 : Int))) ((10 = nat_lit 10 ∧ List.all [u32 (0 : Int), T.v (Value.slice none 0 0), u8 (0 : Int), u8 (0 : Int), u8 (0 : Int), u8 (0 : Int), u8 (0 : Int), u8 (0 : Int), u8 (0 : Int), u8 (0 : Int)] T.one = true) ∧ b = b ∧ 0 + nat_lit 10 ≤ 10 ∧ b = b ∧ Q (T.tup [T.agg [u32 (0 : Int), T.v (Value.slice none 0 0), u8 (0 : Int), u8 (0 : Int), u8 (0 : Int), u8 (0 : Int), u8 (0 : Int), u8 (0 : Int), u8 (0 : Int), u8 (0 : Int)], int (1 : Int)]) [] fun x => none) (bsplit (decide (n > (8 : Int))) ((10 = nat_lit 10 ∧ List.all [u32 (0 : Int), T.v (Value.slice none 0 0), u8 (0 : Int), u8 (0 : Int), u8 (0 : Int), u8 (0 : Int), u8 (0 : Int), u8 (0 : Int), u8 (0 : Int), u8 (0 : Int)] T.one = true) ∧ b = b ∧ 0 + nat_lit 10 ≤ 10 ∧ b = b ∧ Q (T.tup [T.agg [u32 (0 : Int), T.v (Value.slice none 0 0), u8 (0 : Int), u8 (0 : Int), u8 (0 : Int), u8 (0 : Int), u8 (0 : Int), u8 (0 : Int), u8 (0 : Int), u8 (0 : Int)], int (1 : Int)]) [] fun x => none) (∀ (b_1 : Nat), (10 = nat_lit 10 ∧ List.all [u32 (1 : Int), T.v (Value.slice none 0 0), u8 (0 : Int), u8 (0 : Int), u8 (0 : Int), u8 (0 : Int), u8 (0 : Int), u8 (0 : Int), u8 (0 : Int), u8 (0 : Int)] T.one = true) ∧ b_1 = b_1 ∧ 0 + nat_lit 10 ≤ 10 ∧ TWk Tryz.prog Γ (fin Tryz.prog Tryz.f39 [] Q) [It.code (sub (bd Tryz.f39) [1, 1, 1, 0, 1, 0]), It.blk 0, It.code (sub (bd Tryz.f39) [1, 1, 1, 1])] { fr := frame 32 [(2, T.ptr 0 b 0), (4, T.ptr 1 b_1 0), (14, int n), (15, int (0 : Int))], ob := [(b, Ob.cells [u32 (0 : Int), T.v (Value.slice none 0 0), u8 (0 : Int), u8 (0 : Int), u8 (0 : Int), u8 (0 : Int), u8 (0 : Int), u8 (0 : Int), u8 (0 : Int), u8 (0 : Int)]), (b_1, Ob.cells [u32 (1 : Int), T.v (Value.slice none 0 0), u8 (0 : Int), u8 (0 : Int), u8 (0 : Int), u8 (0 : Int), u8 (0 : Int), u8 (0 : Int), u8 (0 : Int), u8 (0 : Int)])], gl := fun x => none }))) (by kernel_rfl) ?_
  refine fun b => bsplit_mk (fun h => ⟨⟨rfl, rfl⟩, rfl, by decide, rfl, hQ0 (.inl (by simpa using h))⟩) (fun h => bsplit_mk (fun h2 => ⟨⟨rfl, rfl⟩, rfl, by decide, rfl, hQ0 (.inr (by simpa using h2))⟩) (fun h2 => fun b1 => ⟨⟨rfl, rfl⟩, rfl, by decide, ?_⟩))
  simp at h h2
  obtain ⟨k, rfl⟩ : ∃ k : Nat, n = k := ⟨n.toNat, by omega⟩
  exact TWk.imp (first_loop Γ b b1 k (by omega) Q (fun r hr => hr ▸ hQ k rfl (by omega) (by omega)) k 0 nilS (by omega)) ((Imp.room 3 145).trans (Imp.cell (i := 1) (b := b1) (cs := vwT 1 (.v nilS) (firstL 0)) (j := 1) 3 2 rfl rfl))
end X5
end Go.Proofs.YtpjkdcbogjigeaaGreat.Vm
namespace Go.Proofs.YtpjkdcbogjigeaaGreat
namespace Acp
open Oct (be getN takeL Part joinRes)
open View (VS Mem)
structure En where
  slot : Nat
  n : Nat
  b : Nat
  kind : Nat
  node : Nat
  life : Nat
  ep : Nat
  rq : Nat
  deriving DecidableEq
structure AS where
  pn : Nat
  pb : Nat
  low : Nat
  v : VS
  E : Nat → Option En
def blw (n b n' b' : Nat) : Bool := decide (n < n' ∨ n = n' ∧ b < b')
def zv : VS := ⟨0, [], fun _ => 0⟩
def st0 : AS := ⟨0, 0, 0, zv, fun _ => none⟩
def promise (x : AS) (n b : Nat) : AS := if blw x.pn x.pb n b then { x with pn := n, pb := b } else x
def upE (E : Nat → Option En) (k : Nat) (y : En) : Nat → Option En := fun j => if j = k then some y else E j
def accept (x : AS) (y : En) : AS := { promise x y.n y.b with E := upE x.E y.slot y }
def cutE (E : Nat → Option En) (low : Nat) : Nat → Option En := fun j => if j < low then none else E j
def cut (x : AS) (low : Nat) (v : VS) : AS := { x with low := max x.low low, v := v, E := cutE x.E (max x.low low) }
inductive Rc where
  | birth (self low : Nat) (v : VS)
  | prom (n b : Nat)
  | acc (y : En)
  | cut (low : Nat) (v : VS)
def num (z : Int) (n : Nat) : Part := ⟨1, z, n, ⟨#[]⟩⟩
def raw (x : List UInt8) : Part := ⟨3, 0, 0, ⟨x.toArray⟩⟩
def one (b : Bool) : Nat := if b then 1 else 0
theorem one_lt (b : Bool) : one b < 2 := by cases b <;> decide
def livesB (L : Nat → Nat) : List UInt8 := (List.range 8).map fun i => UInt8.ofNat (L i)
def memP (m : Mem) : List Part := [num 1 m.node, num 1 m.life, num 1 (one m.ready)]
def vP (low : Nat) (v : VS) : List Part := num 4 low :: num 4 v.e.toNat :: num 1 v.ms.length :: (v.ms.flatMap memP ++ [raw (livesB v.L)])
def memB (m : Mem) : List UInt8 := be 1 m.node ++ (be 1 m.life ++ be 1 (one m.ready))
def vB (v : VS) : List UInt8 := be 4 v.e.toNat ++ (be 1 v.ms.length ++ (v.ms.flatMap memB ++ livesB v.L))
def enB (y : En) : List UInt8 := be 4 y.slot ++ (be 4 y.n ++ (be 1 y.b ++ (be 1 y.kind ++ (be 1 y.node ++ (be 1 y.life ++ (be 4 y.ep ++ be 4 y.rq))))))
def enP (y : En) : List Part := [num 4 y.slot, num 4 y.n, num 1 y.b, num 1 y.kind, num 1 y.node, num 1 y.life, num 4 y.ep, num 4 y.rq]
def Rc.kind : Rc → Nat
  | .birth .. => 1
  | .prom .. => 2
  | .acc _ => 3
  | .cut .. => 4
def Rc.parts : Rc → List Part
  | .birth s low v => num 1 s :: vP low v
  | .prom n b => [num 4 n, num 1 b]
  | .acc y => enP y
  | .cut low v => vP low v
def Rc.b : Rc → List UInt8
  | .birth s low v => be 1 1 ++ (be 1 s ++ (be 4 low ++ vB v))
  | .prom n b => be 1 2 ++ (be 4 n ++ be 1 b)
  | .acc y => be 1 3 ++ enB y
  | .cut low v => be 1 4 ++ (be 4 low ++ vB v)
structure VOk (v : VS) : Prop where
  e0 : 0 ≤ v.e
  e1 : v.e ≤ 4294967295
  len : v.ms.length ≤ 8
  ms : ∀ m ∈ v.ms, m.node < 256 ∧ m.life < 256
  L : ∀ i, v.L i < 256
structure En.Ok (y : En) : Prop where
  slot : y.slot < 4294967296
  n : y.n < 4294967296
  b : y.b < 256
  kind : y.kind < 256
  node : y.node < 256
  life : y.life < 256
  ep : y.ep < 4294967296
  rq : y.rq < 4294967296
def Rc.Ok : Rc → Prop
  | .birth s low v => s < 256 ∧ low < 4294967296 ∧ VOk v
  | .prom n b => n < 4294967296 ∧ b < 256
  | .acc y => y.Ok
  | .cut low v => low < 4294967296 ∧ VOk v
def step (x : AS) : Rc → AS
  | .birth _ low v => cut x low v
  | .prom n b => promise x n b
  | .acc y => accept x y
  | .cut low v => cut x low v
theorem num_bytes (k n : Nat) (h1 : 1 ≤ k ∧ k ≤ 8) (h : n < 256 ^ k) : (num k n).bytes = (be k n, 0) := by
  unfold num Part.bytes
  rw [if_pos rfl]
  unfold Oct.numRes
  rw [if_pos (by simp only [Int.toNat_natCast]; omega)]
  rfl
theorem raw_bytes (x : List UInt8) : (raw x).bytes = (x, 0) := by
  unfold raw Part.bytes
  rw [if_neg (by show ¬ (3 : Int) = 1; decide), if_neg (by show ¬ (3 : Int) = 2; decide), if_pos rfl]
theorem n1 {n : Nat} (h : n < 256) : (num 1 n).bytes = (be 1 n, 0) := num_bytes 1 n (by omega) (by omega)
theorem n4 {n : Nat} (h : n < 4294967296) : (num 4 n).bytes = (be 4 n, 0) := num_bytes 4 n (by omega) (by omega)
theorem join_cons (p : Part) (r : List Part) (a b : List UInt8) (h : p.bytes = (b, 0)) : joinRes (p :: r) a = joinRes r (a ++ b) := by
  show (if p.bytes.2 ≠ 0 then ([], p.bytes.2) else joinRes r (a ++ p.bytes.1)) = _
  rw [h]; rfl
theorem join_mems : ∀ (l : List Mem), (∀ m ∈ l, m.node < 256 ∧ m.life < 256) → ∀ (r : List Part) (a : List UInt8), joinRes (l.flatMap memP ++ r) a = joinRes r (a ++ l.flatMap memB)
  | [], _, r, a => by simp
  | m :: l, h, r, a => by
    obtain ⟨h1, h2⟩ := h m (List.mem_cons_self ..)
    have h3 := one_lt m.ready
    rw [List.flatMap_cons, List.flatMap_cons]
    show joinRes (num 1 m.node :: num 1 m.life :: num 1 (one m.ready) :: (l.flatMap memP ++ r)) a = _
    rw [join_cons _ _ _ _ (n1 h1), join_cons _ _ _ _ (n1 h2), join_cons _ _ _ _ (n1 (by omega)), join_mems l (fun m hm => h m (List.mem_cons_of_mem _ hm))]
    simp [memB]
theorem join_v {low : Nat} {v : VS} (h1 : low < 4294967296) (h : VOk v) (a : List UInt8) : joinRes (vP low v) a = (a ++ (be 4 low ++ vB v), 0) := by
  have he : v.e.toNat < 4294967296 := by have := h.e0; have := h.e1; omega
  have hl : v.ms.length < 256 := by have := h.len; omega
  unfold vP
  rw [join_cons _ _ _ _ (n4 h1), join_cons _ _ _ _ (n4 he), join_cons _ _ _ _ (n1 hl), join_mems _ h.ms, join_cons _ _ _ _ (raw_bytes _)]
  simp [joinRes, vB]
theorem Rc.join {r : Rc} (h : r.Ok) : joinRes (num 1 r.kind :: r.parts) [] = (r.b, 0) := by
  cases r with
  | birth s low v =>
    show joinRes (num 1 1 :: num 1 s :: vP low v) [] = _
    rw [join_cons _ _ _ _ (n1 (by omega)), join_cons _ _ _ _ (n1 h.1), join_v h.2.1 h.2.2]
    simp [Rc.b]
  | prom n b =>
    show joinRes [num 1 2, num 4 n, num 1 b] [] = _
    rw [join_cons _ _ _ _ (n1 (by omega)), join_cons _ _ _ _ (n4 h.1), join_cons _ _ _ _ (n1 h.2)]
    simp [joinRes, Rc.b]
  | acc y =>
    show joinRes (num 1 3 :: enP y) [] = _
    unfold enP
    rw [join_cons _ _ _ _ (n1 (by omega)), join_cons _ _ _ _ (n4 h.slot), join_cons _ _ _ _ (n4 h.n), join_cons _ _ _ _ (n1 h.b), join_cons _ _ _ _ (n1 h.kind), join_cons _ _ _ _ (n1 h.node), join_cons _ _ _ _ (n1 h.life), join_cons _ _ _ _ (n4 h.ep), join_cons _ _ _ _ (n4 h.rq)]
    simp [joinRes, Rc.b, enB]
  | cut low v =>
    show joinRes (num 1 4 :: vP low v) [] = _
    rw [join_cons _ _ _ _ (n1 (by omega)), join_v h.1 h.2]
    simp [Rc.b]
theorem mems_len : ∀ l : List Mem, (l.flatMap memB).length = 3 * l.length
  | [] => rfl
  | m :: l => by rw [List.flatMap_cons, List.length_append, mems_len l]; simp [memB, Oct.length_be]; omega
theorem vB_len (v : VS) : (vB v).length = 13 + 3 * v.ms.length := by
  simp only [vB, List.length_append, Oct.length_be, mems_len, livesB, List.length_map, List.length_range]; omega
theorem Rc.b_len {r : Rc} (h : r.Ok) : 1 ≤ r.b.length ∧ r.b.length ≤ 64 := by
  cases r with
  | birth s low v => have := h.2.2.len; simp only [Rc.b, List.length_append, Oct.length_be, vB_len]; omega
  | prom n b => simp [Rc.b, Oct.length_be]
  | acc y => simp [Rc.b, enB, Oct.length_be]
  | cut low v => have := h.2.len; simp only [Rc.b, List.length_append, Oct.length_be, vB_len]; omega
theorem Rc.vr {r : Rc} (h : r.Ok) : Jrn.Vr r.b := ⟨(Rc.b_len h).1, Nat.le_trans (Rc.b_len h).2 (by decide)⟩
theorem take_num (k n : Nat) (r : List UInt8) : takeL (be k n ++ r) 0 0 k = (be k n, r, 0) := by
  unfold takeL
  rw [if_neg (by decide), if_neg (by omega), if_neg (by rw [List.length_append, Oct.length_be]; omega)]
  have : ((0 : Int) + k).toNat = (be k n).length := by rw [Oct.length_be]; omega
  rw [this, List.take_left, List.drop_left]
  rfl
theorem take_raw (x r : List UInt8) : takeL (x ++ r) 0 0 x.length = (x, r, 0) := by
  unfold takeL
  rw [if_neg (by decide), if_neg (by omega), if_neg (by rw [List.length_append]; omega)]
  have : ((0 : Int) + (x.length : Nat)).toNat = x.length := by omega
  rw [this, List.take_left, List.drop_left]
  rfl
def run (x : AS) (l : List Rc) : AS := l.foldl step x
theorem run_snoc (x : AS) (l : List Rc) (r : Rc) : run x (l ++ [r]) = step (run x l) r := by simp [run]
end Acp
end Go.Proofs.YtpjkdcbogjigeaaGreat
namespace Go.Proofs.YtpjkdcbogjigeaaGreat
namespace Acp
open View (VS Mem)
def Srt (l : List En) : Prop := l.Pairwise fun a b => a.slot < b.slot
theorem srt_ext : ∀ {l l' : List En}, Srt l → Srt l' → (∀ y, y ∈ l ↔ y ∈ l') → l = l'
  | [], [], _, _, _ => rfl
  | [], b :: l', _, _, h => absurd ((h b).2 (List.mem_cons_self ..)) (by simp)
  | a :: l, [], _, _, h => absurd ((h a).1 (List.mem_cons_self ..)) (by simp)
  | a :: l, b :: l', h1, h2, h => by
    obtain ⟨a1, a2⟩ := List.pairwise_cons.1 h1
    obtain ⟨b1, b2⟩ := List.pairwise_cons.1 h2
    have e : a = b := by
      rcases List.mem_cons.1 ((h a).1 (List.mem_cons_self ..)) with e | e
      · exact e
      · rcases List.mem_cons.1 ((h b).2 (List.mem_cons_self ..)) with e' | e'
        · exact e'.symm
        · have := a1 b e'; have := b1 a e; omega
    subst e
    rw [srt_ext a2 b2 fun y => ⟨fun hy => ?_, fun hy => ?_⟩]
    · rcases List.mem_cons.1 ((h y).1 (List.mem_cons_of_mem _ hy)) with e | e
      · subst e; have := a1 y hy; omega
      · exact e
    · rcases List.mem_cons.1 ((h y).2 (List.mem_cons_of_mem _ hy)) with e | e
      · subst e; have := b1 y hy; omega
      · exact e
theorem srt_len : ∀ {l : List En} {lo hi : Nat}, Srt l → (∀ y ∈ l, lo ≤ y.slot ∧ y.slot < hi) → l.length ≤ hi - lo
  | [], _, _, _, _ => Nat.zero_le _
  | a :: l, lo, hi, h, hb => by
    obtain ⟨a1, a2⟩ := List.pairwise_cons.1 h
    have ha := hb a (List.mem_cons_self ..)
    have := srt_len (lo := a.slot + 1) (hi := hi) a2 fun y hy => ⟨a1 y hy, (hb y (List.mem_cons_of_mem _ hy)).2⟩
    rw [List.length_cons]
    omega
structure IsE (E : Nat → Option En) (frm : Nat) (l : List En) : Prop where
  s : Srt l
  m : ∀ y, y ∈ l ↔ E y.slot = some y ∧ frm ≤ y.slot
theorem IsE.uniq {E : Nat → Option En} {frm : Nat} {l l' : List En} (h : IsE E frm l) (h' : IsE E frm l') : l = l' := srt_ext h.s h'.s fun y => (h.m y).trans (h'.m y).symm
theorem IsE.frm {E : Nat → Option En} {l : List En} (h : IsE E 0 l) (f : Nat) : IsE E f (l.filter fun y => decide (f ≤ y.slot)) :=
  ⟨h.s.filter _, fun y => by rw [List.mem_filter, h.m, decide_eq_true_eq]; exact ⟨fun ⟨⟨a, _⟩, b⟩ => ⟨a, b⟩, fun ⟨a, b⟩ => ⟨⟨a, Nat.zero_le _⟩, b⟩⟩⟩
structure XOk (x : AS) : Prop where
  pn : x.pn < 4294967296
  pb : x.pb < 256
  low : x.low < 4294967296
  v : VOk x.v
  E : ∀ k y, x.E k = some y → y.slot = k ∧ x.low ≤ k ∧ k < x.low + 16 ∧ y.Ok
theorem XOk.len {x : AS} (h : XOk x) {f : Nat} {l : List En} (hl : IsE x.E f l) : l.length ≤ 16 := by
  have := srt_len (lo := x.low) (hi := x.low + 16) hl.s fun y hy => (h.E _ _ ((hl.m y).1 hy).1).2 |>.imp_right And.left
  omega
theorem vok_zero : VOk zv := ⟨Int.le_refl _, by decide, Nat.zero_le _, (fun _ h => by cases h), fun _ => (by decide : 0 < 256)⟩
theorem xok_zero : XOk st0 := ⟨by decide, by decide, by decide, vok_zero, fun _ _ h => by cases h⟩
theorem XOk.promise {x : AS} (h : XOk x) {n b : Nat} (hn : n < 4294967296) (hb : b < 256) : XOk (promise x n b) := by
  unfold Acp.promise
  split
  · exact ⟨hn, hb, h.low, h.v, h.E⟩
  · exact h
theorem promise_E (x : AS) (n b : Nat) : (promise x n b).E = x.E ∧ (promise x n b).low = x.low ∧ (promise x n b).v = x.v := by
  unfold promise; split <;> exact ⟨rfl, rfl, rfl⟩
theorem XOk.accept {x : AS} (h : XOk x) {y : En} (hy : y.Ok) (h1 : x.low ≤ y.slot) (h2 : y.slot < x.low + 16) : XOk (accept x y) := by
  have hp := h.promise hy.n hy.b
  obtain ⟨e1, e2, e3⟩ := promise_E x y.n y.b
  refine ⟨hp.pn, hp.pb, hp.low, hp.v, fun k z hz => ?_⟩
  show z.slot = k ∧ (Acp.promise x y.n y.b).low ≤ k ∧ k < (Acp.promise x y.n y.b).low + 16 ∧ z.Ok
  rw [e2]
  have hz : upE x.E y.slot y k = some z := hz
  unfold upE at hz
  split at hz
  · rename_i e
    injection hz with hz
    subst hz e
    exact ⟨rfl, h1, h2, hy⟩
  · exact h.E k z hz
theorem XOk.cut {x : AS} (h : XOk x) {low : Nat} {v : VS} (hl : low < 4294967296) (hv : VOk v) : XOk (cut x low v) := by
  have := h.low
  refine ⟨h.pn, h.pb, (by show max x.low low < _; omega), hv, fun k z hz => ?_⟩
  have hz : cutE x.E (max x.low low) k = some z := hz
  unfold cutE at hz
  split at hz
  · cases hz
  · obtain ⟨a, b, c, d⟩ := h.E k z hz
    exact ⟨a, by show max x.low low ≤ k; omega, by show k < max x.low low + 16; omega, d⟩
structure RE where
  slot : Nat
  n : Nat
  b : Nat
  c : Nat
  deriving DecidableEq
def toE (r : RE) : En := ⟨r.slot, r.n, r.b, r.c % 256, r.c / 8 % 256, r.c / 64 % 256, r.c, r.c / 2⟩
structure RA where
  n : Nat
  b : Nat
  low : Nat
  l : List RE
def fromR (l : List RE) (f : Nat) : List RE := l.filter fun r => decide (f ≤ r.slot)
def insR (y : RE) : Bool → List RE → List RE
  | put, [] => if put then [] else [y]
  | put, x :: l => (if put = false ∧ y.slot ≤ x.slot then [y] else []) ++ ((if x.slot = y.slot then [] else [x]) ++ insR y (put || decide (y.slot ≤ x.slot)) l)
theorem insR_true (y : RE) : ∀ l : List RE, insR y true l = l.filter fun x => decide (x.slot ≠ y.slot)
  | [] => rfl
  | x :: l => by
    unfold insR
    rw [if_neg (by simp), Bool.true_or, insR_true y l, List.nil_append]
    by_cases e : x.slot = y.slot
    · rw [if_pos e, List.filter_cons_of_neg (by simpa using e)]; rfl
    · rw [if_neg e, List.filter_cons_of_pos (by simpa using e)]; rfl
def SrtR (l : List RE) : Prop := l.Pairwise fun a b => a.slot < b.slot
theorem insR_mem (y : RE) : ∀ {l : List RE}, SrtR l → ∀ z, z ∈ insR y false l ↔ z = y ∨ (z ∈ l ∧ z.slot ≠ y.slot)
  | [], _, z => by simp [insR]
  | x :: l, h, z => by
    obtain ⟨a1, a2⟩ := List.pairwise_cons.1 h
    unfold insR
    by_cases e : y.slot ≤ x.slot
    · rw [if_pos ⟨rfl, e⟩, decide_eq_true e, Bool.or_true, insR_true]
      by_cases e2 : x.slot = y.slot
      · rw [if_pos e2]
        simp only [List.nil_append, List.singleton_append, List.mem_cons, List.mem_filter, decide_eq_true_eq]
        constructor
        · rintro (h | ⟨h1, h2⟩)
          · exact .inl h
          · exact .inr ⟨.inr h1, h2⟩
        · rintro (h | ⟨h1 | h1, h2⟩)
          · exact .inl h
          · subst h1; exact absurd e2 h2
          · exact .inr ⟨h1, h2⟩
      · rw [if_neg e2]
        simp only [List.singleton_append, List.mem_cons, List.mem_filter, decide_eq_true_eq]
        constructor
        · rintro (h | h | ⟨h1, h2⟩)
          · exact .inl h
          · subst h; exact .inr ⟨.inl rfl, e2⟩
          · exact .inr ⟨.inr h1, h2⟩
        · rintro (h | ⟨h1 | h1, h2⟩)
          · exact .inl h
          · exact .inr (.inl h1)
          · exact .inr (.inr ⟨h1, h2⟩)
    · rw [if_neg (by simp [e]), if_neg (by omega), decide_eq_false e, Bool.or_false]
      simp only [List.nil_append, List.singleton_append, List.mem_cons, insR_mem y a2]
      constructor
      · rintro (h | h | ⟨h1, h2⟩)
        · subst h; exact .inr ⟨.inl rfl, by omega⟩
        · exact .inl h
        · exact .inr ⟨.inr h1, h2⟩
      · rintro (h | ⟨h1 | h1, h2⟩)
        · exact .inr (.inl h)
        · exact .inl h1
        · exact .inr (.inr ⟨h1, h2⟩)
theorem insR_srt (y : RE) : ∀ {l : List RE}, SrtR l → SrtR (insR y false l)
  | [], _ => by simp [insR, SrtR]
  | x :: l, h => by
    obtain ⟨a1, a2⟩ := List.pairwise_cons.1 h
    unfold insR
    by_cases e : y.slot ≤ x.slot
    · rw [if_pos ⟨rfl, e⟩, decide_eq_true e, Bool.or_true, insR_true]
      have hf : SrtR (l.filter fun x => decide (x.slot ≠ y.slot)) := List.Pairwise.filter _ a2
      by_cases e2 : x.slot = y.slot
      · rw [if_pos e2]
        refine List.pairwise_cons.2 ⟨fun z hz => ?_, hf⟩
        have := a1 z (List.mem_filter.1 hz).1
        omega
      · rw [if_neg e2]
        refine List.pairwise_cons.2 ⟨fun z hz => ?_, List.pairwise_cons.2 ⟨fun z hz => a1 z (List.mem_filter.1 hz).1, hf⟩⟩
        rcases List.mem_cons.1 hz with h | h
        · subst h; omega
        · have := a1 z (List.mem_filter.1 h).1; omega
    · rw [if_neg (by simp [e]), if_neg (by omega), decide_eq_false e, Bool.or_false]
      refine List.pairwise_cons.2 ⟨fun z hz => ?_, insR_srt y a2⟩
      rcases (insR_mem y a2 z).1 hz with h | h
      · subst h; omega
      · exact a1 z h.1
structure Both (x : AS) (m : RA) : Prop where
  n : m.n = x.pn
  b : m.b = x.pb
  low : m.low = x.low
  l : IsE x.E 0 (m.l.map toE)
theorem srt_map {l : List RE} : Srt (l.map toE) ↔ SrtR l := by unfold Srt SrtR; rw [List.pairwise_map]; exact Iff.rfl
theorem frm_map (l : List RE) (f : Nat) : (l.map toE).filter (fun y => decide (f ≤ y.slot)) = (fromR l f).map toE := by
  unfold fromR
  rw [List.filter_map]; rfl
theorem Both.frm {x : AS} {m : RA} (h : Both x m) (f : Nat) : IsE x.E f ((fromR m.l f).map toE) := by rw [← frm_map]; exact h.l.frm f
theorem Both.accept {x : AS} {m : RA} (h : Both x m) (r : RE) (hp : blw r.n r.b x.pn x.pb = false) : Both (accept x (toE r)) ⟨r.n, r.b, m.low, insR r false m.l⟩ := by
  obtain ⟨e1, e2, e3⟩ := promise_E x r.n r.b
  have hs := srt_map.1 h.l.s
  have hpp : (Acp.promise x r.n r.b).pn = r.n ∧ (Acp.promise x r.n r.b).pb = r.b := by
    unfold Acp.promise
    split
    · exact ⟨rfl, rfl⟩
    · rename_i h2
      unfold blw at hp h2
      simp only [decide_eq_true_eq, decide_eq_false_iff_not] at hp h2
      constructor <;> omega
  refine ⟨hpp.1.symm, hpp.2.symm, h.low.trans e2.symm, ⟨srt_map.2 (insR_srt r hs), fun y => ?_⟩⟩
  show _ ↔ upE x.E r.slot (toE r) y.slot = some y ∧ _
  unfold upE
  constructor
  · intro hy
    obtain ⟨z, hz, rfl⟩ := List.mem_map.1 hy
    refine ⟨?_, Nat.zero_le _⟩
    rcases (insR_mem r hs z).1 hz with e | ⟨g1, g2⟩
    · subst e; exact if_pos rfl
    · rw [if_neg (show ¬ (toE z).slot = r.slot from g2)]
      exact ((h.l.m (toE z)).1 (List.mem_map.2 ⟨z, g1, rfl⟩)).1
  · rintro ⟨hy, -⟩
    split at hy
    · injection hy with hy
      exact List.mem_map.2 ⟨r, (insR_mem r hs r).2 (.inl rfl), hy⟩
    · rename_i hne
      obtain ⟨z, hz, rfl⟩ := List.mem_map.1 ((h.l.m y).2 ⟨hy, Nat.zero_le _⟩)
      exact List.mem_map.2 ⟨z, (insR_mem r hs z).2 (.inr ⟨hz, hne⟩), rfl⟩
theorem Both.cut {x : AS} {m : RA} (h : Both x m) (low : Nat) (v : VS) (hl : x.low < low) : Both (Acp.cut x low v) ⟨m.n, m.b, low, fromR m.l low⟩ := by
  have hm : max x.low low = low := by omega
  refine ⟨h.n, h.b, hm.symm, ⟨srt_map.2 (List.Pairwise.filter _ (srt_map.1 h.l.s)), fun y => ?_⟩⟩
  show _ ↔ cutE x.E (max x.low low) y.slot = some y ∧ _
  rw [hm]
  have hf := (h.frm low).m y
  unfold cutE
  rw [hf]
  constructor
  · rintro ⟨g1, g2⟩
    exact ⟨by rw [if_neg (by omega)]; exact g1, Nat.zero_le _⟩
  · rintro ⟨g1, -⟩
    split at g1
    · cases g1
    · exact ⟨g1, by omega⟩
end Acp
end Go.Proofs.YtpjkdcbogjigeaaGreat
