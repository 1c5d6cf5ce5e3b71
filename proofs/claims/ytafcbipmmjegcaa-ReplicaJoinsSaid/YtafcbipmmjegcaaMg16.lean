/- Texts of this claim: VF, Rep0. -/
import Derived.Test.YtafcbipmmjegcaaMg15
namespace Go.Proofs.Ytafcbipmmjegcaa.Vm
open Go Go.RowKit
set_option maxRecDepth 100000
namespace X5
open View (Mem VS atN atI ready)
def othV (l : List Mem) (x : Nat) : List Nat := (l.filter fun m => m.node != x).map (·.node)
def u8s (l : List Nat) : List T := l.map fun n : Nat => u8 n
theorem u8s_len (l : List Nat) : (u8s l).length = l.length := by simp [u8s]
theorem othV_snoc (l : List Mem) (m : Mem) (x : Nat) : othV (l ++ [m]) x = othV l x ++ if m.node = x then [] else [m.node] := by
 by_cases h : m.node = x <;> simp [othV, List.filter_append, h]
theorem othV_len (l : List Mem) (x : Nat) : (othV l x).length ≤ l.length := by rw [othV, List.length_map]; exact List.length_filter_le _ _
def obsR (n : Nat) (hd : Value) : Obs := [(0, .room 1 5 n hd)]
theorem others_loop (Γ : Ctx) (l : List Mem) (x : Nat) (hl : lim l) (Q : T → Obs → Glb → Prop) (hQ : ∀ r, r = .sl 1 (u8s (othV l x)) → Q r [] none_) : ∀ (r d : List Mem) (k : Int) (hd : Value), l = d ++ r → k = d.length →
  TWk Try.prog Γ (fin Try.prog Try.f64 [] Q) [.code (sub (bd Try.f64) [1, 1, 0, 1, 0]), .blk 0, .code (sub (bd Try.f64) [1, 1, 1])] ⟨frame 26 [(1, u8 x), (5, .slx 1 0 (u8s (othV d x)) hd), (9, .sl 3 (mems l)), (10, int (mems l).length), (11, int k)], obsR (u8s (othV d x)).length hd, none_⟩ := by
 intro r
 induction r with
 | nil =>
  intro d k hd h1 hk
  refine run_sound (⟨fun | 4, 0 => .res (.agg (memC ⟨0, 0, false⟩)) | _, _ => .no, [((2, 3), ([1, 5, 9, 10, 11], 1))], fun  | _ => none⟩) 400 (B := bsplit (decide (k < (↑(List.length (mems l)) : Int))) ((0 : Int) ≤ k ∧ (mems l)[Int.toNat k]? = some (T.agg [T.v (Value.int IntKind.u8 (↑(Mem.node { node := (0 : Nat), life := (0 : Nat), ready := false }) : Int)), T.v (Value.int IntKind.u8 (↑(Mem.life { node := (0 : Nat), life := (0 : Nat), ready := false }) : Int)), T.v (Value.bool false)]) ∧ ∀ (b : Nat), ((3 : Nat) = nat_lit 3 ∧ List.all [T.v (Value.int IntKind.u8 (↑(Mem.node { node := (0 : Nat), life := (0 : Nat), ready := false }) : Int)), T.v (Value.int IntKind.u8 (↑(Mem.life { node := (0 : Nat), life := (0 : Nat), ready := false }) : Int)), T.v (Value.bool false)] T.one = true) ∧ b = b ∧ (0 : Nat) + nat_lit 3 ≤ (3 : Nat) ∧ b = b ∧ bsplit ((↑(Mem.node { node := (0 : Nat), life := (0 : Nat), ready := false }) : Int) != (↑x : Int)) (b = b ∧ (hd = hd ∧ List.length (u8s (othV d x)) = List.length (u8s (othV d x))) ∧ Fits (List.length (u8s (othV d x)) + (1 : Nat)) (nat_lit 1) ∧ ∀ (x_1 : Value), TWk Try.prog Γ (fin Try.prog Try.f64 [] Q) [It.code (sub (bd Try.f64) [(1 : Nat), (1 : Nat), (0 : Nat), (1 : Nat), (0 : Nat)]), It.blk (0 : Nat), It.code (sub (bd Try.f64) [(1 : Nat), (1 : Nat), (1 : Nat)])] { fr := [T.und, T.v (Value.int IntKind.u8 (↑x : Int)), T.und, T.und, T.und, T.slx (1 : Nat) (0 : Nat) (u8s (othV d x) ++ [T.v (Value.int IntKind.u8 (↑(Mem.node { node := (0 : Nat), life := (0 : Nat), ready := false }) : Int))]) x_1, T.und, T.und, T.und, T.sl (3 : Nat) (mems l), T.v (Value.int IntKind.i64 (↑(List.length (mems l)) : Int)), T.v (Value.int IntKind.i64 (IntKind.wrap IntKind.i64 (k + (1 : Int)))), T.und, T.und, T.und, T.und, T.und, T.und, T.und, T.und, T.und, T.und, T.und, T.und, T.und, T.und], ob := [((0 : Nat), Ob.room (1 : Nat) (5 : Nat) (List.length (u8s (othV d x) ++ [T.v (Value.int IntKind.u8 (↑(Mem.node { node := (0 : Nat), life := (0 : Nat), ready := false }) : Int))])) x_1)], gl := fun x => none }) (TWk Try.prog Γ (fin Try.prog Try.f64 [] Q) [It.code (sub (bd Try.f64) [(1 : Nat), (1 : Nat), (0 : Nat), (1 : Nat), (0 : Nat)]), It.blk (0 : Nat), It.code (sub (bd Try.f64) [(1 : Nat), (1 : Nat), (1 : Nat)])] { fr := [T.und, T.v (Value.int IntKind.u8 (↑x : Int)), T.und, T.und, T.und, T.slx (1 : Nat) (0 : Nat) (u8s (othV d x)) hd, T.und, T.und, T.und, T.sl (3 : Nat) (mems l), T.v (Value.int IntKind.i64 (↑(List.length (mems l)) : Int)), T.v (Value.int IntKind.i64 (IntKind.wrap IntKind.i64 (k + (1 : Int)))), T.und, T.und, T.und, T.und, T.und, T.und, T.und, T.und, T.und, T.und, T.und, T.und, T.und, T.und], ob := [((0 : Nat), Ob.room (1 : Nat) (5 : Nat) (List.length (u8s (othV d x))) hd)], gl := fun x => none })) (Q (T.sl (1 : Nat) (u8s (othV d x))) [] fun x => none)) (by kernel_rfl) ?_
  have e : d = l := by simp [h1]
  subst e
  exact bsplit_mk (fun h => by simp [hk, mems] at h) (fun _ => hQ _ rfl)
 | cons m r ih =>
  intro d k hd h1 hk
  refine run_sound (⟨fun | 4, 0 => .res (.agg (memC m)) | _, _ => .no, [((2, 3), ([1, 5, 9, 10, 11], 1))], fun  | _ => none⟩) 400 (B := bsplit (decide (k < (↑(List.length (mems l)) : Int))) ((0 : Int) ≤ k ∧ (mems l)[Int.toNat k]? = some (T.agg [T.v (Value.int IntKind.u8 (↑(Mem.node m) : Int)), T.v (Value.int IntKind.u8 (↑(Mem.life m) : Int)), T.v (Value.bool (Mem.ready m))]) ∧ ∀ (b : Nat), ((3 : Nat) = nat_lit 3 ∧ List.all [T.v (Value.int IntKind.u8 (↑(Mem.node m) : Int)), T.v (Value.int IntKind.u8 (↑(Mem.life m) : Int)), T.v (Value.bool (Mem.ready m))] T.one = true) ∧ b = b ∧ (0 : Nat) + nat_lit 3 ≤ (3 : Nat) ∧ b = b ∧ bsplit ((↑(Mem.node m) : Int) != (↑x : Int)) (b = b ∧ (hd = hd ∧ List.length (u8s (othV d x)) = List.length (u8s (othV d x))) ∧ Fits (List.length (u8s (othV d x)) + (1 : Nat)) (nat_lit 1) ∧ ∀ (x_1 : Value), TWk Try.prog Γ (fin Try.prog Try.f64 [] Q) [It.code (sub (bd Try.f64) [(1 : Nat), (1 : Nat), (0 : Nat), (1 : Nat), (0 : Nat)]), It.blk (0 : Nat), It.code (sub (bd Try.f64) [(1 : Nat), (1 : Nat), (1 : Nat)])] { fr := [T.und, T.v (Value.int IntKind.u8 (↑x : Int)), T.und, T.und, T.und, T.slx (1 : Nat) (0 : Nat) (u8s (othV d x) ++ [T.v (Value.int IntKind.u8 (↑(Mem.node m) : Int))]) x_1, T.und, T.und, T.und, T.sl (3 : Nat) (mems l), T.v (Value.int IntKind.i64 (↑(List.length (mems l)) : Int)), T.v (Value.int IntKind.i64 (IntKind.wrap IntKind.i64 (k + (1 : Int)))), T.und, T.und, T.und, T.und, T.und, T.und, T.und, T.und, T.und, T.und, T.und, T.und, T.und, T.und], ob := [((0 : Nat), Ob.room (1 : Nat) (5 : Nat) (List.length (u8s (othV d x) ++ [T.v (Value.int IntKind.u8 (↑(Mem.node m) : Int))])) x_1)], gl := fun x => none }) (TWk Try.prog Γ (fin Try.prog Try.f64 [] Q) [It.code (sub (bd Try.f64) [(1 : Nat), (1 : Nat), (0 : Nat), (1 : Nat), (0 : Nat)]), It.blk (0 : Nat), It.code (sub (bd Try.f64) [(1 : Nat), (1 : Nat), (1 : Nat)])] { fr := [T.und, T.v (Value.int IntKind.u8 (↑x : Int)), T.und, T.und, T.und, T.slx (1 : Nat) (0 : Nat) (u8s (othV d x)) hd, T.und, T.und, T.und, T.sl (3 : Nat) (mems l), T.v (Value.int IntKind.i64 (↑(List.length (mems l)) : Int)), T.v (Value.int IntKind.i64 (IntKind.wrap IntKind.i64 (k + (1 : Int)))), T.und, T.und, T.und, T.und, T.und, T.und, T.und, T.und, T.und, T.und, T.und, T.und, T.und, T.und], ob := [((0 : Nat), Ob.room (1 : Nat) (5 : Nat) (List.length (u8s (othV d x))) hd)], gl := fun x => none })) (Q (T.sl (1 : Nat) (u8s (othV d x))) [] fun x => none)) (by kernel_rfl) ?_
  have hl' : d.length < 1000000 := by have := hl; rw [lim, h1, List.length_append, List.length_cons] at this; omega
  rw [show IntKind.wrap .i64 (k + 1) = k + 1 from wrap_i64 (by omega) (by omega)]
  have nx := fun hd' => ih (d ++ [m]) (k + 1) hd' (by simp [h1]) (by simp [hk])
  refine bsplit_mk (fun _ => ⟨by omega, by simp [h1, hk, mems]; rfl, fun b => ⟨⟨rfl, rfl⟩, rfl, Nat.le_of_ble_eq_true rfl, rfl, bsplit_mk (fun h => ⟨rfl, ⟨rfl, rfl⟩, ?_, fun hd' => ?_⟩) (fun h => ?_)⟩⟩) (fun h => by simp [h1, hk, mems] at h; omega)
  ·have := othV_len d x
   simp [u8s_len, Fits, maxLen]; omega
  ·have hx : m.node ≠ x := by simp at h; omega
   have e : u8s (othV (d ++ [m]) x) = u8s (othV d x) ++ [u8 m.node] := by rw [othV_snoc, if_neg hx, u8s, List.map_append]; rfl
   have := nx hd'
   rw [e] at this
   exact this
  ·have hx : m.node = x := by simp at h; omega
   have e : othV (d ++ [m]) x = othV d x := by rw [othV_snoc, if_pos hx, List.append_nil]
   have := nx hd
   rw [e] at this
   exact this
theorem others_any (v : VS) (x : Nat) (hl : lim v.ms) (Q : T → Obs → Glb → Prop) (hQ : ∀ r, r = .sl 1 (u8s (othV v.ms x)) → Q r [] none_) : TCalls Try.prog 64 [.agg (viewC v), u8 x] [] none_ Q := by
 refine TCalls.of Try.func64 rfl (CanCall.of Try.func64 rfl (by decide)) [] fun Γ => ?_
 refine run_sound (⟨fun _ _ => .no, [((2, 3), ([1, 5, 9, 10, 11], 0))], fun _ => none⟩) 400 (B := ∀ (b : Nat), b = b ∧ TWk Try.prog Γ (fin Try.prog Try.f64 [] Q) [It.code (sub (bd Try.f64) [(1 : Nat), (1 : Nat), (0 : Nat), (1 : Nat), (0 : Nat)]), It.blk (0 : Nat), It.code (sub (bd Try.f64) [(1 : Nat), (1 : Nat), (1 : Nat)])] { fr := [T.und, T.v (Value.int IntKind.u8 (↑x : Int)), T.und, T.und, T.und, T.v (Value.slice none (0 : Nat) (0 : Nat)), T.und, T.und, T.und, T.sl (3 : Nat) (mems (VS.ms v)), T.v (Value.int IntKind.i64 (↑(List.length (mems (VS.ms v))) : Int)), T.v (Value.int IntKind.i64 (0 : Int)), T.und, T.und, T.und, T.und, T.und, T.und, T.und, T.und, T.und, T.und, T.und, T.und, T.und, T.und], ob := [], gl := fun x => none }) (by kernel_rfl) ?_
 exact fun b => ⟨rfl, TWk.imp (others_loop Γ v.ms x hl Q hQ v.ms [] 0 nilS rfl rfl) ((Imp.room 1 5).trans (Imp.slot 1 0 5 rfl))⟩
def firstM (n : Nat) : List Mem := (List.range n).map fun j => ⟨j + 1, 1, true⟩
def firstL (n : Nat) : Nat → Nat := fun i => if i < n then 1 else 0
theorem firstM_len (n : Nat) : (firstM n).length = n := by simp [firstM]
theorem firstM_succ (n : Nat) : mems (firstM (n + 1)) = mems (firstM n) ++ [.agg [u8 (n + 1 : Nat), u8 1, bool true]] := by
 rw [firstM, List.range_succ, List.map_append, mems, List.map_append]; rfl
def obsF (b0 b1 : Nat) (n : Nat) (hd : Value) : Obs := [(b0, .cells [u32 0, .v nilS, u8 0, u8 0, u8 0, u8 0, u8 0, u8 0, u8 0, u8 0]), (b1, .cells (vwT 1 (.slx 3 2 (mems (firstM n)) hd) (firstL n))), (0, .room 3 114 (mems (firstM n)).length hd)]
theorem first_set (j : Nat) (hj : j < 8) (t : T) : (vwT 1 t (firstL j)).take (2 + (j : Int).toNat * 1) ++ List.map T.v #[Value.int .u8 1].toList ++ (vwT 1 t (firstL j)).drop (2 + (j : Int).toNat * 1 + 1) = vwT 1 t (firstL (j + 1)) := by
 have h8 : j = 0 ∨ j = 1 ∨ j = 2 ∨ j = 3 ∨ j = 4 ∨ j = 5 ∨ j = 6 ∨ j = 7 := by omega
 rcases h8 with rfl|rfl|rfl|rfl|rfl|rfl|rfl|rfl <;> rfl
theorem first_loop (Γ : Ctx) (b0 b1 n : Nat) (hn : n ≤ 8) (Q : T → Obs → Glb → Prop) (hQ : ∀ r, r = .tup [.agg (viewC ⟨1, firstM n, firstL n⟩), .v (.int .i64 0)] → Q r [] none_) : ∀ (c j : Nat) (hd : Value), j + c = n →
  TWk Try.prog Γ (fin Try.prog Try.f36 [] Q) [.code (sub (bd Try.f36) [1, 1, 1, 0, 1, 0]), .blk 0, .code (sub (bd Try.f36) [1, 1, 1, 1])] ⟨frame 32 [(2, .ptr 0 b0 0), (4, .ptr 1 b1 0), (14, int n), (15, int j)], obsF b0 b1 j hd, none_⟩ := by
 intro c
 induction c with
 | zero =>
  intro j hd h1
  refine run_sound (⟨fun _ _ => .no, [((2, 5), ([2, 4, 14, 15], 3))], fun _ => none⟩) 400 (B := bsplit (decide ((↑j : Int) < (↑n : Int))) (b1 = b1 ∧ (hd = hd ∧ List.length (mems (firstM j)) = List.length (mems (firstM j))) ∧ Fits (List.length (mems (firstM j)) + (1 : Nat)) (nat_lit 3) ∧ ∀ (x : Value), ((1 : Nat) = nat_lit 1 ∧ List.all [T.slx (3 : Nat) (2 : Nat) (mems (firstM j) ++ [T.agg [T.v (Value.int IntKind.u8 (IntKind.wrap IntKind.u8 (IntKind.wrap IntKind.i64 ((↑j : Int) + (1 : Int))))), T.v (Value.int IntKind.u8 (1 : Int)), T.v (Value.bool true)]]) x] T.one = true) ∧ b1 = b1 ∧ (1 : Nat) + nat_lit 1 ≤ (10 : Nat) ∧ ((0 : Int) ≤ (↑j : Int) ∧ (↑j : Int) < (↑(8 : Nat) : Int)) ∧ ((1 : Nat) = nat_lit 1 ∧ List.all (List.map T.v (Array.toList #[Value.int IntKind.u8 (1 : Int)])) T.one = true) ∧ b1 = b1 ∧ (2 : Nat) + Int.toNat (↑j : Int) * nat_lit 1 + nat_lit 1 ≤ (10 : Nat) ∧ TWk Try.prog Γ (fin Try.prog Try.f36 [] Q) [It.code (sub (bd Try.f36) [(1 : Nat), (1 : Nat), (1 : Nat), (0 : Nat), (1 : Nat), (0 : Nat)]), It.blk (0 : Nat), It.code (sub (bd Try.f36) [(1 : Nat), (1 : Nat), (1 : Nat), (1 : Nat)])] { fr := [T.und, T.und, T.ptr (0 : Nat) b0 (0 : Nat), T.und, T.ptr (1 : Nat) b1 (0 : Nat), T.und, T.und, T.und, T.und, T.und, T.und, T.und, T.und, T.und, T.v (Value.int IntKind.i64 (↑n : Int)), T.v (Value.int IntKind.i64 (IntKind.wrap IntKind.i64 ((↑j : Int) + (1 : Int)))), T.und, T.und, T.und, T.und, T.und, T.und, T.und, T.und, T.und, T.und, T.und, T.und, T.und, T.und, T.und, T.und], ob := [(b0, Ob.cells [T.v (Value.int IntKind.u32 (0 : Int)), T.v (Value.slice none (0 : Nat) (0 : Nat)), T.v (Value.int IntKind.u8 (0 : Int)), T.v (Value.int IntKind.u8 (0 : Int)), T.v (Value.int IntKind.u8 (0 : Int)), T.v (Value.int IntKind.u8 (0 : Int)), T.v (Value.int IntKind.u8 (0 : Int)), T.v (Value.int IntKind.u8 (0 : Int)), T.v (Value.int IntKind.u8 (0 : Int)), T.v (Value.int IntKind.u8 (0 : Int))]), (b1, Ob.cells (List.take ((2 : Nat) + Int.toNat (↑j : Int) * nat_lit 1) [T.v (Value.int IntKind.u32 (1 : Int)), T.slx (3 : Nat) (2 : Nat) (mems (firstM j) ++ [T.agg [T.v (Value.int IntKind.u8 (IntKind.wrap IntKind.u8 (IntKind.wrap IntKind.i64 ((↑j : Int) + (1 : Int))))), T.v (Value.int IntKind.u8 (1 : Int)), T.v (Value.bool true)]]) x, T.v (Value.int IntKind.u8 (↑(firstL j (0 : Nat)) : Int)), T.v (Value.int IntKind.u8 (↑(firstL j (1 : Nat)) : Int)), T.v (Value.int IntKind.u8 (↑(firstL j (2 : Nat)) : Int)), T.v (Value.int IntKind.u8 (↑(firstL j (3 : Nat)) : Int)), T.v (Value.int IntKind.u8 (↑(firstL j (4 : Nat)) : Int)), T.v (Value.int IntKind.u8 (↑(firstL j (5 : Nat)) : Int)), T.v (Value.int IntKind.u8 (↑(firstL j (6 : Nat)) : Int)), T.v (Value.int IntKind.u8 (↑(firstL j (7 : Nat)) : Int))] ++ List.map T.v (Array.toList #[Value.int IntKind.u8 (1 : Int)]) ++ List.drop ((2 : Nat) + Int.toNat (↑j : Int) * nat_lit 1 + (1 : Nat)) [T.v (Value.int IntKind.u32 (1 : Int)), T.slx (3 : Nat) (2 : Nat) (mems (firstM j) ++ [T.agg [T.v (Value.int IntKind.u8 (IntKind.wrap IntKind.u8 (IntKind.wrap IntKind.i64 ((↑j : Int) + (1 : Int))))), T.v (Value.int IntKind.u8 (1 : Int)), T.v (Value.bool true)]]) x, T.v (Value.int IntKind.u8 (↑(firstL j (0 : Nat)) : Int)), T.v (Value.int IntKind.u8 (↑(firstL j (1 : Nat)) : Int)), T.v (Value.int IntKind.u8 (↑(firstL j (2 : Nat)) : Int)), T.v (Value.int IntKind.u8 (↑(firstL j (3 : Nat)) : Int)), T.v (Value.int IntKind.u8 (↑(firstL j (4 : Nat)) : Int)), T.v (Value.int IntKind.u8 (↑(firstL j (5 : Nat)) : Int)), T.v (Value.int IntKind.u8 (↑(firstL j (6 : Nat)) : Int)), T.v (Value.int IntKind.u8 (↑(firstL j (7 : Nat)) : Int))])), ((0 : Nat), Ob.room (3 : Nat) (114 : Nat) (List.length (mems (firstM j) ++ [T.agg [T.v (Value.int IntKind.u8 (IntKind.wrap IntKind.u8 (IntKind.wrap IntKind.i64 ((↑j : Int) + (1 : Int))))), T.v (Value.int IntKind.u8 (1 : Int)), T.v (Value.bool true)]])) x)], gl := fun x => none }) (b1 = b1 ∧ ((10 : Nat) = nat_lit 10 ∧ List.all [T.v (Value.int IntKind.u32 (1 : Int)), T.slx (3 : Nat) (2 : Nat) (mems (firstM j)) hd, T.v (Value.int IntKind.u8 (↑(firstL j (0 : Nat)) : Int)), T.v (Value.int IntKind.u8 (↑(firstL j (1 : Nat)) : Int)), T.v (Value.int IntKind.u8 (↑(firstL j (2 : Nat)) : Int)), T.v (Value.int IntKind.u8 (↑(firstL j (3 : Nat)) : Int)), T.v (Value.int IntKind.u8 (↑(firstL j (4 : Nat)) : Int)), T.v (Value.int IntKind.u8 (↑(firstL j (5 : Nat)) : Int)), T.v (Value.int IntKind.u8 (↑(firstL j (6 : Nat)) : Int)), T.v (Value.int IntKind.u8 (↑(firstL j (7 : Nat)) : Int))] T.one = true) ∧ b0 = b0 ∧ (0 : Nat) + nat_lit 10 ≤ (10 : Nat) ∧ b0 = b0 ∧ Q (T.tup [T.agg [T.v (Value.int IntKind.u32 (1 : Int)), T.sl (3 : Nat) (mems (firstM j)), T.v (Value.int IntKind.u8 (↑(firstL j (0 : Nat)) : Int)), T.v (Value.int IntKind.u8 (↑(firstL j (1 : Nat)) : Int)), T.v (Value.int IntKind.u8 (↑(firstL j (2 : Nat)) : Int)), T.v (Value.int IntKind.u8 (↑(firstL j (3 : Nat)) : Int)), T.v (Value.int IntKind.u8 (↑(firstL j (4 : Nat)) : Int)), T.v (Value.int IntKind.u8 (↑(firstL j (5 : Nat)) : Int)), T.v (Value.int IntKind.u8 (↑(firstL j (6 : Nat)) : Int)), T.v (Value.int IntKind.u8 (↑(firstL j (7 : Nat)) : Int))], T.v (Value.int IntKind.i64 (0 : Int))]) [] fun x => none)) (by kernel_rfl) ?_
  have e : j = n := by omega
  subst e
  exact bsplit_mk (fun h => by simp at h) (fun _ => ⟨rfl, ⟨rfl, rfl⟩, rfl, by decide, rfl, hQ _ rfl⟩)
 | succ c ih =>
  intro j hd h1
  refine run_sound (⟨fun _ _ => .no, [((2, 5), ([2, 4, 14, 15], 3))], fun _ => none⟩) 400 (B := bsplit (decide ((↑j : Int) < (↑n : Int))) (b1 = b1 ∧ (hd = hd ∧ List.length (mems (firstM j)) = List.length (mems (firstM j))) ∧ Fits (List.length (mems (firstM j)) + (1 : Nat)) (nat_lit 3) ∧ ∀ (x : Value), ((1 : Nat) = nat_lit 1 ∧ List.all [T.slx (3 : Nat) (2 : Nat) (mems (firstM j) ++ [T.agg [T.v (Value.int IntKind.u8 (IntKind.wrap IntKind.u8 (IntKind.wrap IntKind.i64 ((↑j : Int) + (1 : Int))))), T.v (Value.int IntKind.u8 (1 : Int)), T.v (Value.bool true)]]) x] T.one = true) ∧ b1 = b1 ∧ (1 : Nat) + nat_lit 1 ≤ (10 : Nat) ∧ ((0 : Int) ≤ (↑j : Int) ∧ (↑j : Int) < (↑(8 : Nat) : Int)) ∧ ((1 : Nat) = nat_lit 1 ∧ List.all (List.map T.v (Array.toList #[Value.int IntKind.u8 (1 : Int)])) T.one = true) ∧ b1 = b1 ∧ (2 : Nat) + Int.toNat (↑j : Int) * nat_lit 1 + nat_lit 1 ≤ (10 : Nat) ∧ TWk Try.prog Γ (fin Try.prog Try.f36 [] Q) [It.code (sub (bd Try.f36) [(1 : Nat), (1 : Nat), (1 : Nat), (0 : Nat), (1 : Nat), (0 : Nat)]), It.blk (0 : Nat), It.code (sub (bd Try.f36) [(1 : Nat), (1 : Nat), (1 : Nat), (1 : Nat)])] { fr := [T.und, T.und, T.ptr (0 : Nat) b0 (0 : Nat), T.und, T.ptr (1 : Nat) b1 (0 : Nat), T.und, T.und, T.und, T.und, T.und, T.und, T.und, T.und, T.und, T.v (Value.int IntKind.i64 (↑n : Int)), T.v (Value.int IntKind.i64 (IntKind.wrap IntKind.i64 ((↑j : Int) + (1 : Int)))), T.und, T.und, T.und, T.und, T.und, T.und, T.und, T.und, T.und, T.und, T.und, T.und, T.und, T.und, T.und, T.und], ob := [(b0, Ob.cells [T.v (Value.int IntKind.u32 (0 : Int)), T.v (Value.slice none (0 : Nat) (0 : Nat)), T.v (Value.int IntKind.u8 (0 : Int)), T.v (Value.int IntKind.u8 (0 : Int)), T.v (Value.int IntKind.u8 (0 : Int)), T.v (Value.int IntKind.u8 (0 : Int)), T.v (Value.int IntKind.u8 (0 : Int)), T.v (Value.int IntKind.u8 (0 : Int)), T.v (Value.int IntKind.u8 (0 : Int)), T.v (Value.int IntKind.u8 (0 : Int))]), (b1, Ob.cells (List.take ((2 : Nat) + Int.toNat (↑j : Int) * nat_lit 1) [T.v (Value.int IntKind.u32 (1 : Int)), T.slx (3 : Nat) (2 : Nat) (mems (firstM j) ++ [T.agg [T.v (Value.int IntKind.u8 (IntKind.wrap IntKind.u8 (IntKind.wrap IntKind.i64 ((↑j : Int) + (1 : Int))))), T.v (Value.int IntKind.u8 (1 : Int)), T.v (Value.bool true)]]) x, T.v (Value.int IntKind.u8 (↑(firstL j (0 : Nat)) : Int)), T.v (Value.int IntKind.u8 (↑(firstL j (1 : Nat)) : Int)), T.v (Value.int IntKind.u8 (↑(firstL j (2 : Nat)) : Int)), T.v (Value.int IntKind.u8 (↑(firstL j (3 : Nat)) : Int)), T.v (Value.int IntKind.u8 (↑(firstL j (4 : Nat)) : Int)), T.v (Value.int IntKind.u8 (↑(firstL j (5 : Nat)) : Int)), T.v (Value.int IntKind.u8 (↑(firstL j (6 : Nat)) : Int)), T.v (Value.int IntKind.u8 (↑(firstL j (7 : Nat)) : Int))] ++ List.map T.v (Array.toList #[Value.int IntKind.u8 (1 : Int)]) ++ List.drop ((2 : Nat) + Int.toNat (↑j : Int) * nat_lit 1 + (1 : Nat)) [T.v (Value.int IntKind.u32 (1 : Int)), T.slx (3 : Nat) (2 : Nat) (mems (firstM j) ++ [T.agg [T.v (Value.int IntKind.u8 (IntKind.wrap IntKind.u8 (IntKind.wrap IntKind.i64 ((↑j : Int) + (1 : Int))))), T.v (Value.int IntKind.u8 (1 : Int)), T.v (Value.bool true)]]) x, T.v (Value.int IntKind.u8 (↑(firstL j (0 : Nat)) : Int)), T.v (Value.int IntKind.u8 (↑(firstL j (1 : Nat)) : Int)), T.v (Value.int IntKind.u8 (↑(firstL j (2 : Nat)) : Int)), T.v (Value.int IntKind.u8 (↑(firstL j (3 : Nat)) : Int)), T.v (Value.int IntKind.u8 (↑(firstL j (4 : Nat)) : Int)), T.v (Value.int IntKind.u8 (↑(firstL j (5 : Nat)) : Int)), T.v (Value.int IntKind.u8 (↑(firstL j (6 : Nat)) : Int)), T.v (Value.int IntKind.u8 (↑(firstL j (7 : Nat)) : Int))])), ((0 : Nat), Ob.room (3 : Nat) (114 : Nat) (List.length (mems (firstM j) ++ [T.agg [T.v (Value.int IntKind.u8 (IntKind.wrap IntKind.u8 (IntKind.wrap IntKind.i64 ((↑j : Int) + (1 : Int))))), T.v (Value.int IntKind.u8 (1 : Int)), T.v (Value.bool true)]])) x)], gl := fun x => none }) (b1 = b1 ∧ ((10 : Nat) = nat_lit 10 ∧ List.all [T.v (Value.int IntKind.u32 (1 : Int)), T.slx (3 : Nat) (2 : Nat) (mems (firstM j)) hd, T.v (Value.int IntKind.u8 (↑(firstL j (0 : Nat)) : Int)), T.v (Value.int IntKind.u8 (↑(firstL j (1 : Nat)) : Int)), T.v (Value.int IntKind.u8 (↑(firstL j (2 : Nat)) : Int)), T.v (Value.int IntKind.u8 (↑(firstL j (3 : Nat)) : Int)), T.v (Value.int IntKind.u8 (↑(firstL j (4 : Nat)) : Int)), T.v (Value.int IntKind.u8 (↑(firstL j (5 : Nat)) : Int)), T.v (Value.int IntKind.u8 (↑(firstL j (6 : Nat)) : Int)), T.v (Value.int IntKind.u8 (↑(firstL j (7 : Nat)) : Int))] T.one = true) ∧ b0 = b0 ∧ (0 : Nat) + nat_lit 10 ≤ (10 : Nat) ∧ b0 = b0 ∧ Q (T.tup [T.agg [T.v (Value.int IntKind.u32 (1 : Int)), T.sl (3 : Nat) (mems (firstM j)), T.v (Value.int IntKind.u8 (↑(firstL j (0 : Nat)) : Int)), T.v (Value.int IntKind.u8 (↑(firstL j (1 : Nat)) : Int)), T.v (Value.int IntKind.u8 (↑(firstL j (2 : Nat)) : Int)), T.v (Value.int IntKind.u8 (↑(firstL j (3 : Nat)) : Int)), T.v (Value.int IntKind.u8 (↑(firstL j (4 : Nat)) : Int)), T.v (Value.int IntKind.u8 (↑(firstL j (5 : Nat)) : Int)), T.v (Value.int IntKind.u8 (↑(firstL j (6 : Nat)) : Int)), T.v (Value.int IntKind.u8 (↑(firstL j (7 : Nat)) : Int))], T.v (Value.int IntKind.i64 (0 : Int))]) [] fun x => none)) (by kernel_rfl) ?_
  have hw : IntKind.u8.wrap (IntKind.i64.wrap ((j : Int) + 1)) = ((j + 1 : Nat) : Int) := by rw [wrap_i64 (by omega) (by omega), IntWalk.u8_in _ (by omega)]; omega
  have hw2 : IntKind.i64.wrap ((j : Int) + 1) = ((j + 1 : Nat) : Int) := by rw [wrap_i64 (by omega) (by omega)]; omega
  have nx := fun x => ih (j + 1) x (by omega)
  simp only [obsF, ← first_set j (by omega), firstM_succ] at nx
  rw [hw, hw2]
  refine bsplit_mk (fun _ => ⟨rfl, ⟨rfl, rfl⟩, ?_, fun x => ⟨⟨rfl, rfl⟩, rfl, by decide, ⟨by omega, by omega⟩, ⟨rfl, rfl⟩, rfl, by simp; omega, nx x⟩⟩) (fun h => by simp at h; omega)
  simp [mems_len, firstM_len, Fits, maxLen]; omega
theorem first_any (n : Int) (Q : T → Obs → Glb → Prop) (hQ0 : n < 1 ∨ 8 < n → Q (.tup [.agg [u32 0, .v nilS, u8 0, u8 0, u8 0, u8 0, u8 0, u8 0, u8 0, u8 0], int 1]) [] none_)
  (hQ : ∀ k : Nat, n = k → 1 ≤ k → k ≤ 8 → Q (.tup [.agg (viewC ⟨1, firstM k, firstL k⟩), int 0]) [] none_) : TCalls Try.prog 36 [int n] [] none_ Q := by
 refine TCalls.of Try.func36 rfl (CanCall.of Try.func36 rfl (by decide)) [] fun Γ => ?_
 refine run_sound (⟨fun _ _ => .no, [((2, 5), ([2, 4, 14, 15], 2))], fun _ => none⟩) 400 (B := ∀ (b : Nat), bsplit (decide (n < (1 : Int))) (((10 : Nat) = nat_lit 10 ∧ List.all [T.v (Value.int IntKind.u32 (0 : Int)), T.v (Value.slice none (0 : Nat) (0 : Nat)), T.v (Value.int IntKind.u8 (0 : Int)), T.v (Value.int IntKind.u8 (0 : Int)), T.v (Value.int IntKind.u8 (0 : Int)), T.v (Value.int IntKind.u8 (0 : Int)), T.v (Value.int IntKind.u8 (0 : Int)), T.v (Value.int IntKind.u8 (0 : Int)), T.v (Value.int IntKind.u8 (0 : Int)), T.v (Value.int IntKind.u8 (0 : Int))] T.one = true) ∧ b = b ∧ (0 : Nat) + nat_lit 10 ≤ (10 : Nat) ∧ b = b ∧ Q (T.tup [T.agg [T.v (Value.int IntKind.u32 (0 : Int)), T.v (Value.slice none (0 : Nat) (0 : Nat)), T.v (Value.int IntKind.u8 (0 : Int)), T.v (Value.int IntKind.u8 (0 : Int)), T.v (Value.int IntKind.u8 (0 : Int)), T.v (Value.int IntKind.u8 (0 : Int)), T.v (Value.int IntKind.u8 (0 : Int)), T.v (Value.int IntKind.u8 (0 : Int)), T.v (Value.int IntKind.u8 (0 : Int)), T.v (Value.int IntKind.u8 (0 : Int))], T.v (Value.int IntKind.i64 (1 : Int))]) [] fun x => none) (bsplit (decide (n > (8 : Int))) (((10 : Nat) = nat_lit 10 ∧ List.all [T.v (Value.int IntKind.u32 (0 : Int)), T.v (Value.slice none (0 : Nat) (0 : Nat)), T.v (Value.int IntKind.u8 (0 : Int)), T.v (Value.int IntKind.u8 (0 : Int)), T.v (Value.int IntKind.u8 (0 : Int)), T.v (Value.int IntKind.u8 (0 : Int)), T.v (Value.int IntKind.u8 (0 : Int)), T.v (Value.int IntKind.u8 (0 : Int)), T.v (Value.int IntKind.u8 (0 : Int)), T.v (Value.int IntKind.u8 (0 : Int))] T.one = true) ∧ b = b ∧ (0 : Nat) + nat_lit 10 ≤ (10 : Nat) ∧ b = b ∧ Q (T.tup [T.agg [T.v (Value.int IntKind.u32 (0 : Int)), T.v (Value.slice none (0 : Nat) (0 : Nat)), T.v (Value.int IntKind.u8 (0 : Int)), T.v (Value.int IntKind.u8 (0 : Int)), T.v (Value.int IntKind.u8 (0 : Int)), T.v (Value.int IntKind.u8 (0 : Int)), T.v (Value.int IntKind.u8 (0 : Int)), T.v (Value.int IntKind.u8 (0 : Int)), T.v (Value.int IntKind.u8 (0 : Int)), T.v (Value.int IntKind.u8 (0 : Int))], T.v (Value.int IntKind.i64 (1 : Int))]) [] fun x => none) (∀ (b_1 : Nat), ((10 : Nat) = nat_lit 10 ∧ List.all [T.v (Value.int IntKind.u32 (1 : Int)), T.v (Value.slice none (0 : Nat) (0 : Nat)), T.v (Value.int IntKind.u8 (0 : Int)), T.v (Value.int IntKind.u8 (0 : Int)), T.v (Value.int IntKind.u8 (0 : Int)), T.v (Value.int IntKind.u8 (0 : Int)), T.v (Value.int IntKind.u8 (0 : Int)), T.v (Value.int IntKind.u8 (0 : Int)), T.v (Value.int IntKind.u8 (0 : Int)), T.v (Value.int IntKind.u8 (0 : Int))] T.one = true) ∧ b_1 = b_1 ∧ (0 : Nat) + nat_lit 10 ≤ (10 : Nat) ∧ TWk Try.prog Γ (fin Try.prog Try.f36 [] Q) [It.code (sub (bd Try.f36) [(1 : Nat), (1 : Nat), (1 : Nat), (0 : Nat), (1 : Nat), (0 : Nat)]), It.blk (0 : Nat), It.code (sub (bd Try.f36) [(1 : Nat), (1 : Nat), (1 : Nat), (1 : Nat)])] { fr := [T.und, T.und, T.ptr (0 : Nat) b (0 : Nat), T.und, T.ptr (1 : Nat) b_1 (0 : Nat), T.und, T.und, T.und, T.und, T.und, T.und, T.und, T.und, T.und, T.v (Value.int IntKind.i64 n), T.v (Value.int IntKind.i64 (0 : Int)), T.und, T.und, T.und, T.und, T.und, T.und, T.und, T.und, T.und, T.und, T.und, T.und, T.und, T.und, T.und, T.und], ob := [(b, Ob.cells [T.v (Value.int IntKind.u32 (0 : Int)), T.v (Value.slice none (0 : Nat) (0 : Nat)), T.v (Value.int IntKind.u8 (0 : Int)), T.v (Value.int IntKind.u8 (0 : Int)), T.v (Value.int IntKind.u8 (0 : Int)), T.v (Value.int IntKind.u8 (0 : Int)), T.v (Value.int IntKind.u8 (0 : Int)), T.v (Value.int IntKind.u8 (0 : Int)), T.v (Value.int IntKind.u8 (0 : Int)), T.v (Value.int IntKind.u8 (0 : Int))]), (b_1, Ob.cells [T.v (Value.int IntKind.u32 (1 : Int)), T.v (Value.slice none (0 : Nat) (0 : Nat)), T.v (Value.int IntKind.u8 (0 : Int)), T.v (Value.int IntKind.u8 (0 : Int)), T.v (Value.int IntKind.u8 (0 : Int)), T.v (Value.int IntKind.u8 (0 : Int)), T.v (Value.int IntKind.u8 (0 : Int)), T.v (Value.int IntKind.u8 (0 : Int)), T.v (Value.int IntKind.u8 (0 : Int)), T.v (Value.int IntKind.u8 (0 : Int))])], gl := fun x => none }))) (by kernel_rfl) ?_
 refine fun b => bsplit_mk (fun h => ⟨⟨rfl, rfl⟩, rfl, by decide, rfl, hQ0 (.inl (by simpa using h))⟩) (fun h => bsplit_mk (fun h2 => ⟨⟨rfl, rfl⟩, rfl, by decide, rfl, hQ0 (.inr (by simpa using h2))⟩) (fun h2 => fun b1 => ⟨⟨rfl, rfl⟩, rfl, by decide, ?_⟩))
 simp at h h2
 obtain ⟨k, rfl⟩ : ∃ k : Nat, n = k := ⟨n.toNat, by omega⟩
 exact TWk.imp (first_loop Γ b b1 k (by omega) Q (fun r hr => hr ▸ hQ k rfl (by omega) (by omega)) k 0 nilS (by omega)) ((Imp.room 3 114).trans (Imp.cell (i := 1) (b := b1) (cs := vwT 1 (.v nilS) (firstL 0)) (j := 1) 3 2 rfl rfl))
end X5
end Go.Proofs.Ytafcbipmmjegcaa.Vm
namespace Go.Proofs.Ytafcbipmmjegcaa
open Go.RowKit
namespace Rep
open Vm.X5 (hasV othV aheadV behindV)
open View (Mem VS)
structure Stp where
 n : Nat
 b : Nat
 l : Nat
 deriving DecidableEq
structure Wrd where
 s : Stp
 h : Bool
 t : ByteArray
 r : Bool
 deriving DecidableEq
structure Cel where
 w : Wrd
 st : Nat
 deriving DecidableEq
structure Drv where
 w : Wrd
 own : Bool
 acks : Nat → Bool
 cov : Bool
 tk : Nat
structure Plc where
 c : Cel
 dr : Option Drv
 age : Nat
structure RS where
 self : Nat
 life : Nat
 v : VS
 P : Nat → Plc
 has : Nat → Bool
 calls : Nat
structure Fm where
 kind : Nat
 frm : Nat
 to : Nat
 epoch : Int
 key : Nat
 w : Wrd
 flag : Bool
 dir : Nat
 deriving DecidableEq
structure Ev where
 key : Nat
 kind : Nat
 s : Stp
 deriving DecidableEq
def put {α : Type} (f : Nat → α) (k : Nat) (x : α) : Nat → α := fun j => if j = k then x else f j
theorem put_at {α : Type} (f : Nat → α) (k : Nat) (x : α) : put f k x k = x := if_pos rfl
theorem put_ne {α : Type} (f : Nat → α) (k : Nat) (x : α) {j : Nat} (h : j ≠ k) : put f k x j = f j := if_neg h
theorem put_put {α : Type} (f : Nat → α) (k : Nat) (x y : α) : put (put f k x) k y = put f k y := by
 funext j; unfold put; split <;> rfl
theorem put_self {α : Type} (f : Nat → α) (k : Nat) : put f k (f k) = f := by
 funext j; unfold put; split <;> simp [*]
def less (a b : Stp) : Bool := decide (a.n < b.n ∨ a.n = b.n ∧ (a.b < b.b ∨ a.b = b.b ∧ a.l < b.l))
def nextS (s : Stp) (d node life : Nat) : Option Stp := if s.n + d ≤ 4294967295 then some ⟨s.n + d, node, life⟩ else none
def inv (c : Cel) (w : Wrd) : Cel × Nat := if less c.w.s w.s then (⟨w, 2⟩, 1) else if c.w.s = w.s then (c, 2) else if w.r then (c, 4) else (c, 3)
def val (c : Cel) (s : Stp) : Cel × Bool := if c.st = 2 ∧ c.w.s = s then (⟨c.w, 1⟩, true) else (c, false)
def give (c : Cel) (w : Wrd) (ok : Bool) : Cel × Bool := if c.st = 0 ∨ less c.w.s w.s = true then (⟨w, if ok then 1 else 2⟩, true) else if ok then val c w.s else (c, false)
def newD (w : Wrd) (own : Bool) : Drv := ⟨w, own, fun _ => false, false, 0⟩
def ackD (d : Drv) (n : Nat) (c : Bool) : Drv := { d with acks := put d.acks n true, cov := d.cov || c }
def doneD (d : Drv) (l : List Nat) : Bool := l.all d.acks
def tickD (d : Drv) (every : Nat) : Drv × Bool := if d.tk + 1 < every then ({ d with tk := d.tk + 1 }, false) else ({ d with tk := 0 }, true)
abbrev Out := RS × List Fm × List Ev
def z0 : Wrd := ⟨⟨0, 0, 0⟩, false, ⟨#[]⟩, false⟩
def ad (n : Nat) : Nat := (16 + n) % 256
def inR (r : RS) : Bool := hasV r.v.ms r.self r.life
def oth (r : RS) : List Nat := othV r.v.ms r.self
def frW (r : RS) (kind node key : Nat) (w : Wrd) (flag : Bool) (dir : Nat) : Fm := ⟨kind, ad r.self, ad node, r.v.e, key, w, flag, dir⟩
abbrev fr (r : RS) (kind node key : Nat) : Fm := frW r kind node key z0 false 0
abbrev zS (s : Stp) : Wrd := ⟨s, false, ⟨#[]⟩, false⟩
def sent (r : RS) (k : Nat) (w : Wrd) : List Fm :=
 (if aheadV r.v.ms r.self = 0 then [] else [frW r 1 (aheadV r.v.ms r.self) k w false 1]) ++
 (if behindV r.v.ms r.self = 0 then [] else [frW r 1 (behindV r.v.ms r.self) k w false 2])
def setP (r : RS) (k : Nat) (p : Plc) : RS := { r with P := put r.P k p }
def look (r : RS) (k : Nat) : Out :=
 match (r.P k).dr with
 | none => (r, [], [])
 | some d => if doneD d (oth r) then
   (if (r.P k).c.w.s = d.w.s ∧ d.cov = false then
    (setP r k { r.P k with dr := none, c := (val (r.P k).c d.w.s).1 }, (oth r).map (fun n => frW r 3 n k (zS d.w.s) false 0), if d.own then [⟨k, 1, d.w.s⟩] else [])
   else (setP r k { r.P k with dr := none }, [], if d.own then [⟨k, 1, d.w.s⟩] else []))
  else (r, [], [])
def way (r : RS) (k : Nat) : RS × List Ev :=
 match (r.P k).dr with
 | none => (setP r k { r.P k with age := 0 }, [])
 | some d => if d.own then (if d.w.r then (setP r k { r.P k with age := 0, dr := none }, [⟨k, 2, d.w.s⟩]) else (setP r k { r.P k with age := 0 }, []))
  else (setP r k { r.P k with age := 0, dr := none }, [])
def rest (r : RS) (k : Nat) : RS :=
 match (r.P k).dr with
 | none => setP r k { r.P k with age := 0 }
 | some d => if d.own then setP r k { r.P k with age := 0 } else setP r k { r.P k with age := 0, dr := none }
def again (r : RS) (k : Nat) : RS × List Fm :=
 match (r.P k).dr with
 | none => (r, [])
 | some d => if inR r then (setP r k { r.P k with dr := some (newD d.w d.own) }, sent r k d.w) else (r, [])
def againL (r : RS) : List Nat → RS × List Fm
 | [] => (r, [])
 | k :: l => ((againL (again r k).1 l).1, (again r k).2 ++ (againL (again r k).1 l).2)
def enter (r : RS) (v : VS) : RS × List Fm := againL { r with v := v } [0, 1, 2, 3, 4, 5]
def free (r : RS) (k : Nat) : Bool := inR r && (decide (k < 6) && (r.has k && (decide ((r.P k).c.st = 1) && (r.P k).dr.isNone)))
def write (r : RS) (k : Nat) (h : Bool) (t : ByteArray) (rmw : Bool) : Out × Option Stp :=
 if free r k then
  match nextS (r.P k).c.w.s (if rmw then 1 else 2) r.self r.life with
  | none => ((r, [], []), none)
  | some s => (((look (setP r k ⟨⟨⟨s, h, t, rmw⟩, 2⟩, some (newD ⟨s, h, t, rmw⟩ true), 0⟩) k).1, sent r k ⟨s, h, t, rmw⟩ ++ (look (setP r k ⟨⟨⟨s, h, t, rmw⟩, 2⟩, some (newD ⟨s, h, t, rmw⟩ true), 0⟩) k).2.1,
    (look (setP r k ⟨⟨⟨s, h, t, rmw⟩, 2⟩, some (newD ⟨s, h, t, rmw⟩ true), 0⟩) k).2.2), some s)
 else ((r, [], []), none)
def sender (r : RS) (f : Fm) : Option Nat := if inR r = true ∧ f.to = ad r.self ∧ f.epoch = r.v.e ∧ f.key < 6 then (oth r).find? (fun n => ad n == f.frm) else none
def sendOn (r : RS) (f : Fm) : List Fm :=
 if f.dir = 1 then (if aheadV r.v.ms r.self = 0 then [] else [{ f with to := ad (aheadV r.v.ms r.self) }])
 else if f.dir = 2 then (if behindV r.v.ms r.self = 0 then [] else [{ f with to := ad (behindV r.v.ms r.self) }]) else []
def setC (r : RS) (k : Nat) (c : Cel) : RS := setP r k { r.P k with c := c }
def onInv (r : RS) (f : Fm) (frm : Nat) : Out :=
 if (inv (r.P f.key).c f.w).2 = 4 then (r, sendOn r f ++ [frW r 1 frm f.key (r.P f.key).c.w false 0], [])
 else if (inv (r.P f.key).c f.w).2 = 1 then
  ((way (setC r f.key (inv (r.P f.key).c f.w).1) f.key).1, sendOn r f ++ [frW r 2 frm f.key (zS f.w.s) false 0], (way (setC r f.key (inv (r.P f.key).c f.w).1) f.key).2)
 else (setC r f.key (inv (r.P f.key).c f.w).1, sendOn r f ++ [frW r 2 frm f.key (zS f.w.s) (decide ((inv (r.P f.key).c f.w).2 = 3)) 0], [])
def onAck (r : RS) (f : Fm) (frm : Nat) : Out :=
 match (r.P f.key).dr with
 | none => (r, [], [])
 | some d => if d.w.s = f.w.s then look (setP r f.key { r.P f.key with dr := some (ackD d frm f.flag) }) f.key else (r, [], [])
def onVal (r : RS) (f : Fm) : RS := if (val (r.P f.key).c f.w.s).2 then rest (setC r f.key (val (r.P f.key).c f.w.s).1) f.key else r
def onNeed (r : RS) (f : Fm) (frm : Nat) : List Fm := if r.has f.key then [frW r 5 frm f.key (r.P f.key).c.w (decide ((r.P f.key).c.st = 1)) 0] else []
def got (r : RS) (k : Nat) : RS := { r with has := put r.has k true }
def onGive (r : RS) (f : Fm) : RS × List Ev :=
 if (give (r.P f.key).c f.w f.flag).2 then
  (if less (r.P f.key).c.w.s (give (r.P f.key).c f.w f.flag).1.w.s then way (setC (got r f.key) f.key (give (r.P f.key).c f.w f.flag).1) f.key
  else (rest (setC (got r f.key) f.key (give (r.P f.key).c f.w f.flag).1) f.key, []))
 else (got r f.key, [])
def on (r : RS) (f : Fm) (lease : Bool) : Out :=
 match sender r f with
 | none => (r, [], [])
 | some frm =>
  if f.kind = 1 then onInv r f frm
  else if f.kind = 2 then (if lease then onAck r f frm else (r, [], []))
  else if f.kind = 3 then (onVal r f, [], [])
  else if f.kind = 4 then (r, onNeed r f frm, [])
  else if f.kind = 5 then ((onGive r f).1, [], (onGive r f).2)
  else (r, [], [])
def complete (r : RS) : Bool := r.has 0 && (r.has 1 && (r.has 2 && (r.has 3 && (r.has 4 && r.has 5))))
def needs (r : RS) : List (Nat × Nat) := if oth r = [] then [] else (([0, 1, 2, 3, 4, 5].filter fun k => !r.has k).map fun k => (k, (oth r).getD ((r.calls + k) % (oth r).length) 0))
def stall (r : RS) (k : Nat) (replay : Nat) (lease : Bool) : RS × List Fm :=
 if r.has k = true ∧ (r.P k).c.st = 2 then
  (if (r.P k).age + 1 ≥ replay ∧ lease = true then
   (if (r.P k).c.w.r = true ∧ hasV r.v.ms (r.P k).c.w.s.b (r.P k).c.w.s.l = true then
    (setP r k { r.P k with age := 0 }, if (r.P k).c.w.s.b = r.self then [] else [fr r 4 (r.P k).c.w.s.b k])
   else (setP r k { r.P k with age := 0, dr := some (newD (r.P k).c.w false) }, sent r k (r.P k).c.w))
  else (setP r k { r.P k with age := (r.P k).age + 1 }, []))
 else (r, [])
def beat (r : RS) (k : Nat) (every : Nat) : RS × List Fm :=
 match (r.P k).dr with
 | none => (r, [])
 | some d => (setP r k { r.P k with dr := some (tickD d every).1 }, if (tickD d every).2 then sent r k d.w else [])
def tickK (r : RS) (k : Nat) (every replay : Nat) (lease : Bool) : Out :=
 match (r.P k).dr with
 | some _ => if lease then ((beat (look r k).1 k every).1, (look r k).2.1 ++ (beat (look r k).1 k every).2, (look r k).2.2) else ((beat r k every).1, (beat r k every).2, [])
 | none => ((stall r k replay lease).1, (stall r k replay lease).2, [])
def tickL (r : RS) (every replay : Nat) (lease : Bool) : List Nat → Out
 | [] => (r, [], [])
 | k :: l => ((tickL (tickK r k every replay lease).1 every replay lease l).1, (tickK r k every replay lease).2.1 ++ (tickL (tickK r k every replay lease).1 every replay lease l).2.1, (tickK r k every replay lease).2.2 ++ (tickL (tickK r k every replay lease).1 every replay lease l).2.2)
def asked (r : RS) : RS × List Fm := if complete r then (r, []) else ({ r with calls := r.calls + 1 }, (needs r).map fun n => fr r 4 n.2 n.1)
def tick (r : RS) (every replay : Nat) (lease : Bool) : Out :=
 if inR r then ((tickL (asked r).1 every replay lease [0, 1, 2, 3, 4, 5]).1, (asked r).2 ++ (tickL (asked r).1 every replay lease [0, 1, 2, 3, 4, 5]).2.1, (tickL (asked r).1 every replay lease [0, 1, 2, 3, 4, 5]).2.2) else (r, [], [])
def begun (self life : Nat) (whole : Bool) : RS := ⟨self, life, ⟨0, [], fun _ => 0⟩, fun _ => ⟨⟨z0, if whole then 1 else 0⟩, none, 0⟩, fun _ => whole, 0⟩
end Rep
end Go.Proofs.Ytafcbipmmjegcaa
