/- Rosters by the engine: first, Want, New. -/
import Derived.Test.YtidhblpcaccchaaRB2
import Derived.Test.YtidhblpcaccchaaRos2
namespace Go.Proofs.Ytidhblpcaccchaa.Vm
open Go Go.RowKit
set_option maxRecDepth 100000
namespace X15
open View (Mem VS WF)
open Lrn (Cmd)
open Ros (Wd RS)
open X5 (memC mems mems_len vwT viewC lim vB vwR zc apply_any)
open X13 (cmdC c0)
/-- what a search tells -/
def resW : Option Cmd → T
  | some c => .tup [.agg (cmdC c), bool true]
  | none => .tup [.agg (cmdC c0), bool false]
theorem first_loop (Γ : Ctx) (b b1 b2 : Nat) (r : RS) (v : VS) (hl : lim v.ms) (F : Nat) (p : Mem → Bool) (f : Mem → Cmd)
    (hF : ∀ m ∈ v.ms, TCalls Try.prog F [.ptr 0 b 0, .agg (viewC v), .agg (memC m)] (obsR b r) none_ (callPost (cmdH [0] (obsR b r) (f m) (p m)))) (Q : T → Obs → Glb → Prop)
    (hQ : ∀ x, x = resW ((v.ms.find? p).map f) → Q x (obsR b r) none_) : ∀ (rs d : List Mem) (k : Int), v.ms = d ++ rs → k = d.length → v.ms.find? p = rs.find? p →
    TWk Try.prog Γ (fin Try.prog Try.f94 [0] Q) [.code (sub (bd Try.f94) [1, 0, 1, 0]), .blk 0, .code (sub (bd Try.f94) [1, 1])] ⟨frame 30 [(2, .fb F [.ptr 0 b 0]), (4, .ptr 1 b1 0), (6, .ptr 2 b2 0), (13, .sl 3 (mems v.ms)), (14, int (mems v.ms).length), (15, int k)], obsR b r ++ [(b1, .cells (viewC v)), (b2, .cells (cmdC c0))], none_⟩ := by
  intro rs
  induction rs with
  | nil =>
    intro d k h1 h2 hf
    have e : d.length = v.ms.length := by rw [h1]; simp
    rw [hf] at hQ
    refine run_sound (⟨fun | 3, 0 => .res (.agg (memC ⟨0, 0, false⟩)) | 4, 3 => .no | _, _ => .no, [((2, 2), ([2, 4, 6, 13, 14, 15], 3)), ((0, 4), ([2, 4, 6, 9, 13, 14, 15], 3))], fun  | _ => none⟩) 400 (B := bsplit (decide (k < (↑(List.length (mems (VS.ms v))) : Int))) ((0 : Int) ≤ k ∧ (mems (VS.ms v))[Int.toNat k]? = some (T.agg [u8 (Mem.node { node := 0, life := 0, ready := false }), u8 (Mem.life { node := 0, life := 0, ready := false }), bool false]) ∧ ∀ (b_1 : Nat), (3 = nat_lit 3 ∧ List.all [u8 (Mem.node { node := 0, life := 0, ready := false }), u8 (Mem.life { node := 0, life := 0, ready := false }), bool false] T.one = true) ∧ b_1 = b_1 ∧ 0 + nat_lit 3 ≤ 3 ∧ TWk Try.prog Γ (fin Try.prog Try.f94 [0] Q) [It.code (sub (bd Try.f94) [1, 0, 1, 0, 0, 1, 1, 0, 0, 1]), It.blk 1, It.code (sub (bd Try.f94) [1, 0, 1, 0, 0, 1, 1, 1]), It.code (sub (bd Try.f94) [1, 0, 1, 0]), It.blk 0, It.code (sub (bd Try.f94) [1, 1])] { fr := frame 30 [(2, T.fb F [T.ptr 0 b 0]), (4, T.ptr 1 b1 0), (6, T.ptr 2 b2 0), (9, T.ptr 3 b_1 0), (13, T.sl 3 (mems (VS.ms v))), (14, int (List.length (mems (VS.ms v)))), (15, int k)], ob := [(b, Ob.cells (rosC r)), (b1, Ob.cells [u32 (VS.e v), T.sl 3 (mems (VS.ms v)), u8 (VS.L v 0), u8 (VS.L v 1), u8 (VS.L v 2), u8 (VS.L v 3), u8 (VS.L v 4), u8 (VS.L v 5), u8 (VS.L v 6), u8 (VS.L v 7)]), (b2, Ob.cells [u8 (Cmd.k c0), u8 (Cmd.n c0), u8 (Cmd.l c0), u32 (Cmd.e c0), u32 (Cmd.q c0)])], gl := fun x => none }) ((5 = nat_lit 5 ∧ List.all [u8 (0 : Int), u8 (0 : Int), u8 (0 : Int), u32 (0 : Int), u32 (0 : Int)] T.one = true) ∧ b2 = b2 ∧ 0 + nat_lit 5 ≤ 5 ∧ b2 = b2 ∧ Q (T.tup [T.agg [u8 (0 : Int), u8 (0 : Int), u8 (0 : Int), u32 (0 : Int), u32 (0 : Int)], bool false]) [(b, Ob.cells (rosC r))] fun x => none)) (by kernel_rfl) ?_
    repeat' (first | exact rfl | exact Nat.le_of_ble_eq_true rfl | refine And.intro ?_ ?_ | intro _ | refine bsplit_mk (fun _ => ?_) (fun _ => ?_))
    all_goals first
      | exact hQ _ rfl
      | (exfalso; simp only [decide_eq_true_eq, mems_len] at *; omega)
      | (clear hQ; trace_state)
  | cons m rs ih =>
    intro d k h1 h2 hf
    have hlen : d.length < v.ms.length := by rw [h1]; simp
    have hx : (mems v.ms)[k.toNat]? = some (.agg (memC m)) := by rw [h2, mems, List.getElem?_map, h1]; simp
    have hlm : v.ms.length ≤ 1000000 := hl
    have hc := hF m (by rw [h1]; simp)
    have nx := fun hp : p m = false => ih (d ++ [m]) (k + 1) (by simp [h1]) (by simp [h2]) (by rw [hf, List.find?_cons, hp])
    have yes := fun hp : p m = true => hQ (resW (some (f m))) (by rw [hf, List.find?_cons, hp]; rfl)
    refine run_sound (⟨fun | 3, 0 => .res (.agg (memC m)) | 4, 3 => cmdH [0] (obsR b r) (f m) (p m) | _, _ => .no, [((2, 2), ([2, 4, 6, 13, 14, 15], 3))], fun  | _ => none⟩) 400 (B := bsplit (decide (k < (↑(List.length (mems (VS.ms v))) : Int))) ((0 : Int) ≤ k ∧ (mems (VS.ms v))[Int.toNat k]? = some (T.agg [u8 (Mem.node m), u8 (Mem.life m), bool (Mem.ready m)]) ∧ ∀ (b_1 : Nat), (3 = nat_lit 3 ∧ List.all [u8 (Mem.node m), u8 (Mem.life m), bool (Mem.ready m)] T.one = true) ∧ b_1 = b_1 ∧ 0 + nat_lit 3 ≤ 3 ∧ b1 = b1 ∧ b_1 = b_1 ∧ TCalls Try.prog F [T.ptr 0 b 0, T.agg [u32 (VS.e v), T.sl 3 (mems (VS.ms v)), u8 (VS.L v 0), u8 (VS.L v 1), u8 (VS.L v 2), u8 (VS.L v 3), u8 (VS.L v 4), u8 (VS.L v 5), u8 (VS.L v 6), u8 (VS.L v 7)], T.agg [u8 (Mem.node m), u8 (Mem.life m), bool (Mem.ready m)]] [(b, Ob.cells (rosC r))] (fun x => none) (callPost (Hint.call false Cmd (fun d => p m = true → d = f m) [0] false (fun d => T.tup [T.agg (cmdC d), bool (p m)]) (fun x => obsR b r) fun x => none_)) ∧ ∀ (a : Cmd), (p m = true → a = f m) → ∀ (b_2 : Nat), (5 = nat_lit 5 ∧ List.all [u8 (Cmd.k a), u8 (Cmd.n a), u8 (Cmd.l a), u32 (Cmd.e a), u32 (Cmd.q a)] T.one = true) ∧ b_2 = b_2 ∧ 0 + nat_lit 5 ≤ 5 ∧ bsplit (p m) (b_2 = b_2 ∧ (5 = nat_lit 5 ∧ List.all [u8 (Cmd.k a), u8 (Cmd.n a), u8 (Cmd.l a), u32 (Cmd.e a), u32 (Cmd.q a)] T.one = true) ∧ b2 = b2 ∧ 0 + nat_lit 5 ≤ 5 ∧ b2 = b2 ∧ Q (T.tup [T.agg [u8 (Cmd.k a), u8 (Cmd.n a), u8 (Cmd.l a), u32 (Cmd.e a), u32 (Cmd.q a)], bool true]) [(b, Ob.cells (rosC r))] fun x => none) (TWk Try.prog Γ (fin Try.prog Try.f94 [0] Q) [It.code (sub (bd Try.f94) [1, 0, 1, 0]), It.blk 0, It.code (sub (bd Try.f94) [1, 1])] { fr := frame 30 [(2, T.fb F [T.ptr 0 b 0]), (4, T.ptr 1 b1 0), (6, T.ptr 2 b2 0), (13, T.sl 3 (mems (VS.ms v))), (14, int (List.length (mems (VS.ms v)))), (15, int (IntKind.wrap IntKind.i64 (k + (1 : Int))))], ob := [(b, Ob.cells (rosC r)), (b1, Ob.cells [u32 (VS.e v), T.sl 3 (mems (VS.ms v)), u8 (VS.L v 0), u8 (VS.L v 1), u8 (VS.L v 2), u8 (VS.L v 3), u8 (VS.L v 4), u8 (VS.L v 5), u8 (VS.L v 6), u8 (VS.L v 7)]), (b2, Ob.cells [u8 (Cmd.k c0), u8 (Cmd.n c0), u8 (Cmd.l c0), u32 (Cmd.e c0), u32 (Cmd.q c0)])], gl := fun x => none })) ((5 = nat_lit 5 ∧ List.all [u8 (0 : Int), u8 (0 : Int), u8 (0 : Int), u32 (0 : Int), u32 (0 : Int)] T.one = true) ∧ b2 = b2 ∧ 0 + nat_lit 5 ≤ 5 ∧ b2 = b2 ∧ Q (T.tup [T.agg [u8 (0 : Int), u8 (0 : Int), u8 (0 : Int), u32 (0 : Int), u32 (0 : Int)], bool false]) [(b, Ob.cells (rosC r))] fun x => none)) (by kernel_rfl) ?_
    rw [show IntKind.wrap .i64 (k + 1) = k + 1 from wrap_i64 (by omega) (by omega)]
    repeat' (first | exact rfl | exact Nat.le_of_ble_eq_true rfl | refine And.intro ?_ ?_ | intro _ | refine bsplit_mk (fun _ => ?_) (fun _ => ?_))
    all_goals first
      | omega
      | exact hx
      | exact hc
      | (rename_i h; exact nx h)
      | (rename_i hd _ h; rw [hd h]; exact yes h)
      | (exfalso; simp only [decide_eq_false_iff_not, mems_len] at *; omega)
      | (clear nx ih hc hF; trace_state)
theorem first_any (b : Nat) (r : RS) (v : VS) (hl : lim v.ms) (F : Nat) (p : Mem → Bool) (f : Mem → Cmd)
    (hF : ∀ m ∈ v.ms, TCalls Try.prog F [.ptr 0 b 0, .agg (viewC v), .agg (memC m)] (obsR b r) none_ (callPost (cmdH [0] (obsR b r) (f m) (p m)))) (Q : T → Obs → Glb → Prop)
    (hQ : ∀ x, x = resW ((v.ms.find? p).map f) → Q x (obsR b r) none_) : TCalls Try.prog 94 [.ptr 0 b 0, .agg (viewC v), .fb F [.ptr 0 b 0]] (obsR b r) none_ Q := by
  refine TCalls.of Try.func94 rfl (CanCall.of Try.func94 rfl (by decide)) [0] fun Γ => ?_
  refine run_sound (⟨fun _ _ => .no, [((2, 2), ([2, 4, 6, 13, 14, 15], 3))], fun _ => none⟩) 400 (B := ∀ (b_1 b_2 : Nat), b_1 = b_1 ∧ TWk Try.prog Γ (fin Try.prog Try.f94 [0] Q) [It.code (sub (bd Try.f94) [1, 0, 1, 0]), It.blk 0, It.code (sub (bd Try.f94) [1, 1])] { fr := frame 30 [(2, T.fb F [T.ptr 0 b 0]), (4, T.ptr 1 b_1 0), (6, T.ptr 2 b_2 0), (13, T.sl 3 (mems (VS.ms v))), (14, int (List.length (mems (VS.ms v)))), (15, int (0 : Int))], ob := [(b, Ob.cells (rosC r)), (b_1, Ob.cells [u32 (VS.e v), T.sl 3 (mems (VS.ms v)), u8 (VS.L v 0), u8 (VS.L v 1), u8 (VS.L v 2), u8 (VS.L v 3), u8 (VS.L v 4), u8 (VS.L v 5), u8 (VS.L v 6), u8 (VS.L v 7)]), (b_2, Ob.cells [u8 (0 : Int), u8 (0 : Int), u8 (0 : Int), u32 (0 : Int), u32 (0 : Int)])], gl := fun x => none }) (by kernel_rfl) ?_
  repeat' (first | exact rfl | exact Nat.le_of_ble_eq_true rfl | refine And.intro ?_ ?_ | intro _ | refine bsplit_mk (fun _ => ?_) (fun _ => ?_))
  exact first_loop Γ b _ _ r v hl F p f hF Q hQ v.ms [] 0 rfl rfl rfl
/-- what the wishes need -/
structure Fit (r : RS) (v : VS) : Prop where
  bd : Ros.Bd r
  n1 : r.now ≤ 1000000
  wf : WF v
theorem Fit.lim {r : RS} {v : VS} (h : Fit r v) : X5.lim v.ms := by have := h.wf.len; rw [X5.lim]; omega
theorem Fit.vB {r : RS} {v : VS} (h : Fit r v) : X5.vB v := ⟨h.wf.e0, h.wf.e1⟩
theorem first_rem {b : Nat} {r : RS} {v : VS} (h : Fit r v) {o : Option Cmd} (ho : (v.ms.find? (Ros.remB r v)).map Ros.remC = o) : TCalls Try.prog 94 [.ptr 0 b 0, .agg (viewC v), .fb 95 [.ptr 0 b 0]] (obsR b r) none_ (callPost (told (resW o) [0] (obsR b r))) :=
  first_any b r v h.lim 95 (Ros.remB r v) Ros.remC (fun m hm => by
    have hn := h.wf.mem m hm
    have ha := h.bd.a m.node
    have hS := h.bd.S m.node
    have h1 := h.n1
    exact remove_any b r ⟨h.bd.n0, h.n1⟩ v h.vB h.lim m.node m.life m.ready ⟨hn.1, hn.2.1⟩ ⟨ha.1, by omega⟩ ⟨hS.1, by omega⟩ _ (fun c hc => ⟨c, hc, rfl, rfl, Nat.le_of_ble_eq_true rfl, fun h => by cases h⟩)) _ fun x hx => told_post (by rw [hx, ho])
theorem first_set {b : Nat} {r : RS} {v : VS} (h : Fit r v) {o : Option Cmd} (ho : (v.ms.find? (Ros.setB r v)).map Ros.setC = o) : TCalls Try.prog 94 [.ptr 0 b 0, .agg (viewC v), .fb 97 [.ptr 0 b 0]] (obsR b r) none_ (callPost (told (resW o) [0] (obsR b r))) :=
  first_any b r v h.lim 97 (Ros.setB r v) Ros.setC (fun m hm => by
    have hn := h.wf.mem m hm
    exact settle_any b r v m.node m.life m.ready ⟨hn.1, hn.2.1⟩ _ (fun x hx => ⟨Ros.setC m, fun _ => rfl, hx, rfl, Nat.le_of_ble_eq_true rfl, fun h => by cases h⟩)) _ fun x hx => told_post (by rw [hx, ho])
theorem first_gr {b : Nat} {r : RS} {v : VS} (h : Fit r v) {o : Option Cmd} (ho : (v.ms.find? (Ros.grB r v)).map (Ros.grC r v) = o) : TCalls Try.prog 94 [.ptr 0 b 0, .agg (viewC v), .fb 98 [.ptr 0 b 0]] (obsR b r) none_ (callPost (told (resW o) [0] (obsR b r))) :=
  first_any b r v h.lim 98 (Ros.grB r v) (Ros.grC r v) (fun m hm => by
    have hn := h.wf.mem m hm
    exact grant_any b r v m.node m.life m.ready ⟨hn.1, hn.2.1⟩ _ (fun x hx => ⟨Ros.grC r v m, fun _ => rfl, hx, rfl, Nat.le_of_ble_eq_true rfl, fun h => by cases h⟩)) _ fun x hx => told_post (by rw [hx, ho])
def w9 (r : RS) : List T := wdC (r.W 0) ++ (wdC (r.W 1) ++ (wdC (r.W 2) ++ (wdC (r.W 3) ++ (wdC (r.W 4) ++ (wdC (r.W 5) ++ (wdC (r.W 6) ++ (wdC (r.W 7) ++ wdC (r.W 8))))))))
def obsW (b b1 b2 : Nat) (r : RS) (v : VS) : Obs := [(b, .cells (rosC r)), (b1, .cells (viewC v)), (b2, .cells (cmdC c0))]
theorem want16 (Γ : Ctx) (b b1 b2 : Nat) (r : RS) (v : VS) (h : Fit r v) (Q : T → Obs → Glb → Prop) (hQ : ∀ x, x = resW ((v.ms.find? (Ros.grB r v)).map (Ros.grC r v)) → Q x (obsR b r) none_) :
    TWk Try.prog Γ (fin Try.prog Try.f61 [0] Q) [.code (sub (bd Try.f61) [1, 1, 1, 1, 1])] ⟨frame 61 [(0, .ptr 0 b 0), (3, .ptr 1 b1 0), (4, .ptr 2 b2 0)], obsW b b1 b2 r v, none_⟩ := by
  cases ho : (v.ms.find? (Ros.grB r v)).map (Ros.grC r v) with
  | none =>
    rw [ho] at hQ
    refine run_sound (⟨fun | 16, 4 => told (.tup [.agg (cmdC c0), bool false]) [0] (obsR b r) | _, _ => .no, [], fun  | _ => none⟩) 400 (B := b1 = b1 ∧ TCalls Try.prog 94 [T.ptr 0 b 0, T.agg [u32 (VS.e v), T.sl 3 (mems (VS.ms v)), u8 (VS.L v 0), u8 (VS.L v 1), u8 (VS.L v 2), u8 (VS.L v 3), u8 (VS.L v 4), u8 (VS.L v 5), u8 (VS.L v 6), u8 (VS.L v 7)], T.fb 98 [T.ptr 0 b 0]] [(b, Ob.cells (rosC r))] (fun x => none) (callPost (Hint.call false Unit (fun x => True) [0] false (fun x => T.tup [T.agg (cmdC c0), bool false]) (fun x => obsR b r) fun x => none_)) ∧ ∀ (a : Unit), True → (5 = nat_lit 5 ∧ List.all [u8 (Cmd.k c0), u8 (Cmd.n c0), u8 (Cmd.l c0), u32 (Cmd.e c0), u32 (Cmd.q c0)] T.one = true) ∧ b2 = b2 ∧ 0 + nat_lit 5 ≤ 5 ∧ b2 = b2 ∧ Q (T.tup [T.agg [u8 (Cmd.k c0), u8 (Cmd.n c0), u8 (Cmd.l c0), u32 (Cmd.e c0), u32 (Cmd.q c0)], bool false]) [(b, Ob.cells (rosC r))] fun x => none) (by kernel_rfl) ?_
    repeat' (first | exact rfl | exact Nat.le_of_ble_eq_true rfl | refine And.intro ?_ ?_ | intro _ | refine bsplit_mk (fun _ => ?_) (fun _ => ?_))
    all_goals first
      | exact first_gr h ho
      | exact hQ _ rfl
      | (clear hQ; trace_state)
  | some c =>
    rw [ho] at hQ
    refine run_sound (⟨fun | 16, 4 => told (.tup [.agg (cmdC c), bool true]) [0] (obsR b r) | _, _ => .no, [], fun  | _ => none⟩) 400 (B := b1 = b1 ∧ TCalls Try.prog 94 [T.ptr 0 b 0, T.agg [u32 (VS.e v), T.sl 3 (mems (VS.ms v)), u8 (VS.L v 0), u8 (VS.L v 1), u8 (VS.L v 2), u8 (VS.L v 3), u8 (VS.L v 4), u8 (VS.L v 5), u8 (VS.L v 6), u8 (VS.L v 7)], T.fb 98 [T.ptr 0 b 0]] [(b, Ob.cells (rosC r))] (fun x => none) (callPost (Hint.call false Unit (fun x => True) [0] false (fun x => T.tup [T.agg (cmdC c), bool true]) (fun x => obsR b r) fun x => none_)) ∧ ∀ (a : Unit), True → (5 = nat_lit 5 ∧ List.all [u8 (Cmd.k c), u8 (Cmd.n c), u8 (Cmd.l c), u32 (Cmd.e c), u32 (Cmd.q c)] T.one = true) ∧ b2 = b2 ∧ 0 + nat_lit 5 ≤ 5 ∧ b2 = b2 ∧ Q (T.tup [T.agg [u8 (Cmd.k c), u8 (Cmd.n c), u8 (Cmd.l c), u32 (Cmd.e c), u32 (Cmd.q c)], bool true]) [(b, Ob.cells (rosC r))] fun x => none) (by kernel_rfl) ?_
    repeat' (first | exact rfl | exact Nat.le_of_ble_eq_true rfl | refine And.intro ?_ ?_ | intro _ | refine bsplit_mk (fun _ => ?_) (fun _ => ?_))
    all_goals first
      | exact first_gr h ho
      | exact hQ _ rfl
      | (clear hQ; trace_state)
theorem want13 (Γ : Ctx) (b b1 b2 : Nat) (r : RS) (v : VS) (h : Fit r v) (Q : T → Obs → Glb → Prop) (hQ : ∀ x, x = resW (match v.ms.find? (Ros.setB r v) with | some m => some (Ros.setC m) | none => (v.ms.find? (Ros.grB r v)).map (Ros.grC r v)) → Q x (obsR b r) none_) :
    TWk Try.prog Γ (fin Try.prog Try.f61 [0] Q) [.code (sub (bd Try.f61) [1, 1, 1, 1])] ⟨frame 61 [(0, .ptr 0 b 0), (3, .ptr 1 b1 0), (4, .ptr 2 b2 0)], obsW b b1 b2 r v, none_⟩ := by
  cases ho : v.ms.find? (Ros.setB r v) with
  | none =>
    rw [ho] at hQ
    have ho' : (v.ms.find? (Ros.setB r v)).map Ros.setC = none := by rw [ho]; rfl
    refine run_sound (⟨fun | 13, 4 => told (.tup [.agg (cmdC c0), bool false]) [0] (obsR b r) | _, _ => .no, [((0, 16), ([0, 3, 4], 3))], fun  | _ => none⟩) 400 (B := b1 = b1 ∧ TCalls Try.prog 94 [T.ptr 0 b 0, T.agg [u32 (VS.e v), T.sl 3 (mems (VS.ms v)), u8 (VS.L v 0), u8 (VS.L v 1), u8 (VS.L v 2), u8 (VS.L v 3), u8 (VS.L v 4), u8 (VS.L v 5), u8 (VS.L v 6), u8 (VS.L v 7)], T.fb 97 [T.ptr 0 b 0]] [(b, Ob.cells (rosC r))] (fun x => none) (callPost (Hint.call false Unit (fun x => True) [0] false (fun x => T.tup [T.agg (cmdC c0), bool false]) (fun x => obsR b r) fun x => none_)) ∧ ∀ (a : Unit), True → ∀ (b_1 : Nat), (5 = nat_lit 5 ∧ List.all [u8 (Cmd.k c0), u8 (Cmd.n c0), u8 (Cmd.l c0), u32 (Cmd.e c0), u32 (Cmd.q c0)] T.one = true) ∧ b_1 = b_1 ∧ 0 + nat_lit 5 ≤ 5 ∧ TWk Try.prog Γ (fin Try.prog Try.f61 [0] Q) [It.code (sub (bd Try.f61) [1, 1, 1, 1, 1])] { fr := frame 61 [(0, T.ptr 0 b 0), (3, T.ptr 1 b1 0), (4, T.ptr 2 b2 0)], ob := [(b, Ob.cells (rosC r)), (b1, Ob.cells [u32 (VS.e v), T.sl 3 (mems (VS.ms v)), u8 (VS.L v 0), u8 (VS.L v 1), u8 (VS.L v 2), u8 (VS.L v 3), u8 (VS.L v 4), u8 (VS.L v 5), u8 (VS.L v 6), u8 (VS.L v 7)]), (b2, Ob.cells [u8 (Cmd.k c0), u8 (Cmd.n c0), u8 (Cmd.l c0), u32 (Cmd.e c0), u32 (Cmd.q c0)])], gl := fun x => none }) (by kernel_rfl) ?_
    repeat' (first | exact rfl | exact Nat.le_of_ble_eq_true rfl | refine And.intro ?_ ?_ | intro _ | refine bsplit_mk (fun _ => ?_) (fun _ => ?_))
    all_goals first
      | exact first_set h ho'
      | exact want16 Γ b b1 b2 r v h Q hQ
      | (clear hQ; trace_state)
  | some m =>
    rw [ho] at hQ
    have ho' : (v.ms.find? (Ros.setB r v)).map Ros.setC = some (Ros.setC m) := by rw [ho]; rfl
    refine run_sound (⟨fun | 13, 4 => told (.tup [.agg (cmdC (Ros.setC m)), bool true]) [0] (obsR b r) | _, _ => .no, [((0, 16), ([0, 3, 4], 3))], fun  | _ => none⟩) 400 (B := b1 = b1 ∧ TCalls Try.prog 94 [T.ptr 0 b 0, T.agg [u32 (VS.e v), T.sl 3 (mems (VS.ms v)), u8 (VS.L v 0), u8 (VS.L v 1), u8 (VS.L v 2), u8 (VS.L v 3), u8 (VS.L v 4), u8 (VS.L v 5), u8 (VS.L v 6), u8 (VS.L v 7)], T.fb 97 [T.ptr 0 b 0]] [(b, Ob.cells (rosC r))] (fun x => none) (callPost (Hint.call false Unit (fun x => True) [0] false (fun x => T.tup [T.agg (cmdC (Ros.setC m)), bool true]) (fun x => obsR b r) fun x => none_)) ∧ ∀ (a : Unit), True → ∀ (b_1 : Nat), (5 = nat_lit 5 ∧ List.all [u8 (Cmd.k (Ros.setC m)), u8 (Cmd.n (Ros.setC m)), u8 (Cmd.l (Ros.setC m)), u32 (Cmd.e (Ros.setC m)), u32 (Cmd.q (Ros.setC m))] T.one = true) ∧ b_1 = b_1 ∧ 0 + nat_lit 5 ≤ 5 ∧ b_1 = b_1 ∧ (5 = nat_lit 5 ∧ List.all [u8 (Cmd.k (Ros.setC m)), u8 (Cmd.n (Ros.setC m)), u8 (Cmd.l (Ros.setC m)), u32 (Cmd.e (Ros.setC m)), u32 (Cmd.q (Ros.setC m))] T.one = true) ∧ b2 = b2 ∧ 0 + nat_lit 5 ≤ 5 ∧ b2 = b2 ∧ Q (T.tup [T.agg [u8 (Cmd.k (Ros.setC m)), u8 (Cmd.n (Ros.setC m)), u8 (Cmd.l (Ros.setC m)), u32 (Cmd.e (Ros.setC m)), u32 (Cmd.q (Ros.setC m))], bool true]) [(b, Ob.cells (rosC r))] fun x => none) (by kernel_rfl) ?_
    repeat' (first | exact rfl | exact Nat.le_of_ble_eq_true rfl | refine And.intro ?_ ?_ | intro _ | refine bsplit_mk (fun _ => ?_) (fun _ => ?_))
    all_goals first
      | exact first_set h ho'
      | exact hQ _ rfl
      | (clear hQ; trace_state)
theorem words_at (r : RS) (k : Nat) (hk : k < 9) : (Ros.words r)[k]? = some (r.W k) := by
  rcases (by omega : k = 0 ∨ k = 1 ∨ k = 2 ∨ k = 3 ∨ k = 4 ∨ k = 5 ∨ k = 6 ∨ k = 7 ∨ k = 8) with rfl | rfl | rfl | rfl | rfl | rfl | rfl | rfl | rfl <;> rfl
theorem want7 (Γ : Ctx) (b b1 b2 : Nat) (r : RS) (v : VS) (h : Fit r v) (Q : T → Obs → Glb → Prop) (hQ : ∀ x, x = resW (match (Ros.words r).find? (Ros.addB r v) with
    | some w => some (Ros.addC w)
    | none => match v.ms.find? (Ros.setB r v) with | some m => some (Ros.setC m) | none => (v.ms.find? (Ros.grB r v)).map (Ros.grC r v)) → Q x (obsR b r) none_) : ∀ (f k : Nat), k + f = 9 → (Ros.words r).find? (Ros.addB r v) = ((Ros.words r).drop k).find? (Ros.addB r v) →
    TWk Try.prog Γ (fin Try.prog Try.f61 [0] Q) [.code (sub (bd Try.f61) [1, 1, 1, 0, 1, 0]), .blk 0, .code (sub (bd Try.f61) [1, 1, 1, 1])] ⟨frame 61 [(0, .ptr 0 b 0), (3, .ptr 1 b1 0), (4, .ptr 2 b2 0), (30, .agg (w9 r)), (31, int k)], obsW b b1 b2 r v, none_⟩ := by
  intro f
  induction f with
  | zero =>
    intro k hk hf
    obtain rfl : k = 9 := by omega
    rw [hf] at hQ
    refine run_sound (⟨fun | 8, 0 => .res (.agg (wdC Ros.w0)) | 9, 3 => .no | _, _ => .no, [((2, 7), ([0, 3, 4, 30, 31], 3)), ((0, 13), ([0, 3, 4], 3)), ((0, 9), ([0, 3, 4, 9, 30, 31], 3))], fun  | _ => none⟩) 400 (B := TWk Try.prog Γ (fin Try.prog Try.f61 [0] Q) [It.code (sub (bd Try.f61) [1, 1, 1, 1])] { fr := frame 61 [(0, T.ptr 0 b 0), (3, T.ptr 1 b1 0), (4, T.ptr 2 b2 0)], ob := [(b, Ob.cells (rosC r)), (b1, Ob.cells [u32 (VS.e v), T.sl 3 (mems (VS.ms v)), u8 (VS.L v 0), u8 (VS.L v 1), u8 (VS.L v 2), u8 (VS.L v 3), u8 (VS.L v 4), u8 (VS.L v 5), u8 (VS.L v 6), u8 (VS.L v 7)]), (b2, Ob.cells [u8 (Cmd.k c0), u8 (Cmd.n c0), u8 (Cmd.l c0), u32 (Cmd.e c0), u32 (Cmd.q c0)])], gl := fun x => none }) (by kernel_rfl) ?_
    repeat' (first | exact rfl | exact Nat.le_of_ble_eq_true rfl | refine And.intro ?_ ?_ | intro _ | refine bsplit_mk (fun _ => ?_) (fun _ => ?_))
    all_goals first
      | exact want13 Γ b b1 b2 r v h Q hQ
      | (exfalso; rename_i h; simp at h; done)
      | (clear hQ; trace_state)
  | succ f ih =>
    intro k hk hf
    have hw := words_at r k (by omega)
    have hd : (Ros.words r).drop k = r.W k :: (Ros.words r).drop (k + 1) := by
      obtain ⟨hlt, e⟩ := List.getElem?_eq_some_iff.1 hw
      rw [List.drop_eq_getElem_cons hlt, e]
    rw [hd, List.find?_cons] at hf
    have nx := fun hp : Ros.addB r v (r.W k) = false => ih (k + 1) (by omega) (by rw [hf, hp])
    have yes := fun hp : Ros.addB r v (r.W k) = true => hQ (resW (some (Ros.addC (r.W k)))) (by rw [hf, hp])
    have ha := h.bd.a k
    have h1 := h.n1
    have hwr : IntKind.wrap .i64 ((k : Int) + 1) = ((k + 1 : Nat) : Int) := by rw [wrap_i64 (by omega) (by omega)]; rfl
    have hcall := add_any b r ⟨h.bd.n0, h.n1⟩ v h.vB h.lim (r.W k) ⟨ha.1, by omega⟩ (callPost (cmdH [0] (obsR b r) (Ros.addC (r.W k)) (Ros.addB r v (r.W k)))) (fun c hc => ⟨c, hc, rfl, rfl, Nat.le_of_ble_eq_true rfl, fun h => by cases h⟩)
    refine run_sound (⟨fun | 8, 0 => .res (.agg (wdC (r.W k))) | 9, 3 => cmdH [0] (obsR b r) (Ros.addC (r.W k)) (Ros.addB r v (r.W k)) | _, _ => .no, [((2, 7), ([0, 3, 4, 30, 31], 3)), ((0, 13), ([0, 3, 4], 3))], fun  | _ => none⟩) 400 (B := bsplit (decide ((↑k : Int) < (9 : Int))) (((0 : Int) ≤ (↑k : Int) ∧ (↑k : Int) < (↑(9 : Nat) : Int)) ∧ some (T.agg (List.take (nat_lit 6) (List.drop (Int.toNat (↑k : Int) * nat_lit 6) [u8 (Wd.n (RS.W r 0)), u8 (Wd.l (RS.W r 0)), u32 (Wd.e (RS.W r 0)), u32 (Wd.q (RS.W r 0)), bool (Wd.c (RS.W r 0)), int (Wd.a (RS.W r 0)), u8 (Wd.n (RS.W r 1)), u8 (Wd.l (RS.W r 1)), u32 (Wd.e (RS.W r 1)), u32 (Wd.q (RS.W r 1)), bool (Wd.c (RS.W r 1)), int (Wd.a (RS.W r 1)), u8 (Wd.n (RS.W r 2)), u8 (Wd.l (RS.W r 2)), u32 (Wd.e (RS.W r 2)), u32 (Wd.q (RS.W r 2)), bool (Wd.c (RS.W r 2)), int (Wd.a (RS.W r 2)), u8 (Wd.n (RS.W r 3)), u8 (Wd.l (RS.W r 3)), u32 (Wd.e (RS.W r 3)), u32 (Wd.q (RS.W r 3)), bool (Wd.c (RS.W r 3)), int (Wd.a (RS.W r 3)), u8 (Wd.n (RS.W r 4)), u8 (Wd.l (RS.W r 4)), u32 (Wd.e (RS.W r 4)), u32 (Wd.q (RS.W r 4)), bool (Wd.c (RS.W r 4)), int (Wd.a (RS.W r 4)), u8 (Wd.n (RS.W r 5)), u8 (Wd.l (RS.W r 5)), u32 (Wd.e (RS.W r 5)), u32 (Wd.q (RS.W r 5)), bool (Wd.c (RS.W r 5)), int (Wd.a (RS.W r 5)), u8 (Wd.n (RS.W r 6)), u8 (Wd.l (RS.W r 6)), u32 (Wd.e (RS.W r 6)), u32 (Wd.q (RS.W r 6)), bool (Wd.c (RS.W r 6)), int (Wd.a (RS.W r 6)), u8 (Wd.n (RS.W r 7)), u8 (Wd.l (RS.W r 7)), u32 (Wd.e (RS.W r 7)), u32 (Wd.q (RS.W r 7)), bool (Wd.c (RS.W r 7)), int (Wd.a (RS.W r 7)), u8 (Wd.n (RS.W r 8)), u8 (Wd.l (RS.W r 8)), u32 (Wd.e (RS.W r 8)), u32 (Wd.q (RS.W r 8)), bool (Wd.c (RS.W r 8)), int (Wd.a (RS.W r 8))]))) = some (T.agg [u8 (Wd.n (RS.W r k)), u8 (Wd.l (RS.W r k)), u32 (Wd.e (RS.W r k)), u32 (Wd.q (RS.W r k)), bool (Wd.c (RS.W r k)), int (Wd.a (RS.W r k))]) ∧ ∀ (b_1 : Nat), (6 = nat_lit 6 ∧ List.all [u8 (Wd.n (RS.W r k)), u8 (Wd.l (RS.W r k)), u32 (Wd.e (RS.W r k)), u32 (Wd.q (RS.W r k)), bool (Wd.c (RS.W r k)), int (Wd.a (RS.W r k))] T.one = true) ∧ b_1 = b_1 ∧ 0 + nat_lit 6 ≤ 6 ∧ b1 = b1 ∧ b_1 = b_1 ∧ TCalls Try.prog 96 [T.ptr 0 b 0, T.agg [u32 (VS.e v), T.sl 3 (mems (VS.ms v)), u8 (VS.L v 0), u8 (VS.L v 1), u8 (VS.L v 2), u8 (VS.L v 3), u8 (VS.L v 4), u8 (VS.L v 5), u8 (VS.L v 6), u8 (VS.L v 7)], T.agg [u8 (Wd.n (RS.W r k)), u8 (Wd.l (RS.W r k)), u32 (Wd.e (RS.W r k)), u32 (Wd.q (RS.W r k)), bool (Wd.c (RS.W r k)), int (Wd.a (RS.W r k))]] [(b, Ob.cells (rosC r))] (fun x => none) (callPost (Hint.call false Cmd (fun d => Ros.addB r v (RS.W r k) = true → d = Ros.addC (RS.W r k)) [0] false (fun d => T.tup [T.agg (cmdC d), bool (Ros.addB r v (RS.W r k))]) (fun x => obsR b r) fun x => none_)) ∧ ∀ (a : Cmd), (Ros.addB r v (RS.W r k) = true → a = Ros.addC (RS.W r k)) → ∀ (b_2 : Nat), (5 = nat_lit 5 ∧ List.all [u8 (Cmd.k a), u8 (Cmd.n a), u8 (Cmd.l a), u32 (Cmd.e a), u32 (Cmd.q a)] T.one = true) ∧ b_2 = b_2 ∧ 0 + nat_lit 5 ≤ 5 ∧ bsplit (Ros.addB r v (RS.W r k)) (b_2 = b_2 ∧ (5 = nat_lit 5 ∧ List.all [u8 (Cmd.k a), u8 (Cmd.n a), u8 (Cmd.l a), u32 (Cmd.e a), u32 (Cmd.q a)] T.one = true) ∧ b2 = b2 ∧ 0 + nat_lit 5 ≤ 5 ∧ b2 = b2 ∧ Q (T.tup [T.agg [u8 (Cmd.k a), u8 (Cmd.n a), u8 (Cmd.l a), u32 (Cmd.e a), u32 (Cmd.q a)], bool true]) [(b, Ob.cells (rosC r))] fun x => none) (TWk Try.prog Γ (fin Try.prog Try.f61 [0] Q) [It.code (sub (bd Try.f61) [1, 1, 1, 0, 1, 0]), It.blk 0, It.code (sub (bd Try.f61) [1, 1, 1, 1])] { fr := frame 61 [(0, T.ptr 0 b 0), (3, T.ptr 1 b1 0), (4, T.ptr 2 b2 0), (30, T.agg [u8 (Wd.n (RS.W r 0)), u8 (Wd.l (RS.W r 0)), u32 (Wd.e (RS.W r 0)), u32 (Wd.q (RS.W r 0)), bool (Wd.c (RS.W r 0)), int (Wd.a (RS.W r 0)), u8 (Wd.n (RS.W r 1)), u8 (Wd.l (RS.W r 1)), u32 (Wd.e (RS.W r 1)), u32 (Wd.q (RS.W r 1)), bool (Wd.c (RS.W r 1)), int (Wd.a (RS.W r 1)), u8 (Wd.n (RS.W r 2)), u8 (Wd.l (RS.W r 2)), u32 (Wd.e (RS.W r 2)), u32 (Wd.q (RS.W r 2)), bool (Wd.c (RS.W r 2)), int (Wd.a (RS.W r 2)), u8 (Wd.n (RS.W r 3)), u8 (Wd.l (RS.W r 3)), u32 (Wd.e (RS.W r 3)), u32 (Wd.q (RS.W r 3)), bool (Wd.c (RS.W r 3)), int (Wd.a (RS.W r 3)), u8 (Wd.n (RS.W r 4)), u8 (Wd.l (RS.W r 4)), u32 (Wd.e (RS.W r 4)), u32 (Wd.q (RS.W r 4)), bool (Wd.c (RS.W r 4)), int (Wd.a (RS.W r 4)), u8 (Wd.n (RS.W r 5)), u8 (Wd.l (RS.W r 5)), u32 (Wd.e (RS.W r 5)), u32 (Wd.q (RS.W r 5)), bool (Wd.c (RS.W r 5)), int (Wd.a (RS.W r 5)), u8 (Wd.n (RS.W r 6)), u8 (Wd.l (RS.W r 6)), u32 (Wd.e (RS.W r 6)), u32 (Wd.q (RS.W r 6)), bool (Wd.c (RS.W r 6)), int (Wd.a (RS.W r 6)), u8 (Wd.n (RS.W r 7)), u8 (Wd.l (RS.W r 7)), u32 (Wd.e (RS.W r 7)), u32 (Wd.q (RS.W r 7)), bool (Wd.c (RS.W r 7)), int (Wd.a (RS.W r 7)), u8 (Wd.n (RS.W r 8)), u8 (Wd.l (RS.W r 8)), u32 (Wd.e (RS.W r 8)), u32 (Wd.q (RS.W r 8)), bool (Wd.c (RS.W r 8)), int (Wd.a (RS.W r 8))]), (31, int (IntKind.wrap IntKind.i64 ((↑k : Int) + (1 : Int))))], ob := [(b, Ob.cells (rosC r)), (b1, Ob.cells [u32 (VS.e v), T.sl 3 (mems (VS.ms v)), u8 (VS.L v 0), u8 (VS.L v 1), u8 (VS.L v 2), u8 (VS.L v 3), u8 (VS.L v 4), u8 (VS.L v 5), u8 (VS.L v 6), u8 (VS.L v 7)]), (b2, Ob.cells [u8 (Cmd.k c0), u8 (Cmd.n c0), u8 (Cmd.l c0), u32 (Cmd.e c0), u32 (Cmd.q c0)])], gl := fun x => none })) (TWk Try.prog Γ (fin Try.prog Try.f61 [0] Q) [It.code (sub (bd Try.f61) [1, 1, 1, 1])] { fr := frame 61 [(0, T.ptr 0 b 0), (3, T.ptr 1 b1 0), (4, T.ptr 2 b2 0)], ob := [(b, Ob.cells (rosC r)), (b1, Ob.cells [u32 (VS.e v), T.sl 3 (mems (VS.ms v)), u8 (VS.L v 0), u8 (VS.L v 1), u8 (VS.L v 2), u8 (VS.L v 3), u8 (VS.L v 4), u8 (VS.L v 5), u8 (VS.L v 6), u8 (VS.L v 7)]), (b2, Ob.cells [u8 (Cmd.k c0), u8 (Cmd.n c0), u8 (Cmd.l c0), u32 (Cmd.e c0), u32 (Cmd.q c0)])], gl := fun x => none })) (by kernel_rfl) ?_
    rw [hwr]
    repeat' (first | exact rfl | exact Nat.le_of_ble_eq_true rfl | refine And.intro ?_ ?_ | intro _ | refine bsplit_mk (fun _ => ?_) (fun _ => ?_))
    all_goals first
      | omega
      | exact hcall
      | (rename_i h; exact nx h)
      | (rename_i hd _ h; rw [hd h]; exact yes h)
      | (rcases (by omega : k = 0 ∨ k = 1 ∨ k = 2 ∨ k = 3 ∨ k = 4 ∨ k = 5 ∨ k = 6 ∨ k = 7 ∨ k = 8) with rfl | rfl | rfl | rfl | rfl | rfl | rfl | rfl | rfl <;> rfl)
      | (exfalso; simp only [decide_eq_false_iff_not] at *; omega)
      | (clear nx ih hcall yes hQ; trace_state)
theorem want_any (b : Nat) (r : RS) (v : VS) (h : Fit r v) (Q : T → Obs → Glb → Prop) (hQ : ∀ x, x = resW (Ros.want r v) → Q x (obsR b r) none_) : TCalls Try.prog 61 [.ptr 0 b 0, .agg (viewC v)] (obsR b r) none_ Q := by
  unfold Ros.want at hQ
  cases ho : v.ms.find? (Ros.remB r v) with
  | none =>
    rw [ho] at hQ
    have ho' : (v.ms.find? (Ros.remB r v)).map Ros.remC = none := by rw [ho]; rfl
    refine TCalls.of Try.func61 rfl (CanCall.of Try.func61 rfl (by decide)) [0] fun Γ => ?_
    refine run_sound (⟨fun | 3, 4 => told (.tup [.agg (cmdC c0), bool false]) [0] (obsR b r) | _, _ => .no, [((2, 7), ([0, 3, 4, 30, 31], 3))], fun  | _ => none⟩) 400 (B := ∀ (b_1 b_2 : Nat), b_1 = b_1 ∧ TCalls Try.prog 94 [T.ptr 0 b 0, T.agg [u32 (VS.e v), T.sl 3 (mems (VS.ms v)), u8 (VS.L v 0), u8 (VS.L v 1), u8 (VS.L v 2), u8 (VS.L v 3), u8 (VS.L v 4), u8 (VS.L v 5), u8 (VS.L v 6), u8 (VS.L v 7)], T.fb 95 [T.ptr 0 b 0]] [(b, Ob.cells (rosC r))] (fun x => none) (callPost (Hint.call false Unit (fun x => True) [0] false (fun x => T.tup [T.agg (cmdC c0), bool false]) (fun x => obsR b r) fun x => none_)) ∧ ∀ (a : Unit), True → ∀ (b_3 : Nat), (5 = nat_lit 5 ∧ List.all [u8 (Cmd.k c0), u8 (Cmd.n c0), u8 (Cmd.l c0), u32 (Cmd.e c0), u32 (Cmd.q c0)] T.one = true) ∧ b_3 = b_3 ∧ 0 + nat_lit 5 ≤ 5 ∧ b = b ∧ TWk Try.prog Γ (fin Try.prog Try.f61 [0] Q) [It.code (sub (bd Try.f61) [1, 1, 1, 0, 1, 0]), It.blk 0, It.code (sub (bd Try.f61) [1, 1, 1, 1])] { fr := frame 61 [(0, T.ptr 0 b 0), (3, T.ptr 1 b_1 0), (4, T.ptr 2 b_2 0), (30, T.agg [u8 (Wd.n (RS.W r 0)), u8 (Wd.l (RS.W r 0)), u32 (Wd.e (RS.W r 0)), u32 (Wd.q (RS.W r 0)), bool (Wd.c (RS.W r 0)), int (Wd.a (RS.W r 0)), u8 (Wd.n (RS.W r 1)), u8 (Wd.l (RS.W r 1)), u32 (Wd.e (RS.W r 1)), u32 (Wd.q (RS.W r 1)), bool (Wd.c (RS.W r 1)), int (Wd.a (RS.W r 1)), u8 (Wd.n (RS.W r 2)), u8 (Wd.l (RS.W r 2)), u32 (Wd.e (RS.W r 2)), u32 (Wd.q (RS.W r 2)), bool (Wd.c (RS.W r 2)), int (Wd.a (RS.W r 2)), u8 (Wd.n (RS.W r 3)), u8 (Wd.l (RS.W r 3)), u32 (Wd.e (RS.W r 3)), u32 (Wd.q (RS.W r 3)), bool (Wd.c (RS.W r 3)), int (Wd.a (RS.W r 3)), u8 (Wd.n (RS.W r 4)), u8 (Wd.l (RS.W r 4)), u32 (Wd.e (RS.W r 4)), u32 (Wd.q (RS.W r 4)), bool (Wd.c (RS.W r 4)), int (Wd.a (RS.W r 4)), u8 (Wd.n (RS.W r 5)), u8 (Wd.l (RS.W r 5)), u32 (Wd.e (RS.W r 5)), u32 (Wd.q (RS.W r 5)), bool (Wd.c (RS.W r 5)), int (Wd.a (RS.W r 5)), u8 (Wd.n (RS.W r 6)), u8 (Wd.l (RS.W r 6)), u32 (Wd.e (RS.W r 6)), u32 (Wd.q (RS.W r 6)), bool (Wd.c (RS.W r 6)), int (Wd.a (RS.W r 6)), u8 (Wd.n (RS.W r 7)), u8 (Wd.l (RS.W r 7)), u32 (Wd.e (RS.W r 7)), u32 (Wd.q (RS.W r 7)), bool (Wd.c (RS.W r 7)), int (Wd.a (RS.W r 7)), u8 (Wd.n (RS.W r 8)), u8 (Wd.l (RS.W r 8)), u32 (Wd.e (RS.W r 8)), u32 (Wd.q (RS.W r 8)), bool (Wd.c (RS.W r 8)), int (Wd.a (RS.W r 8))]), (31, int (0 : Int))], ob := [(b, Ob.cells (rosC r)), (b_1, Ob.cells [u32 (VS.e v), T.sl 3 (mems (VS.ms v)), u8 (VS.L v 0), u8 (VS.L v 1), u8 (VS.L v 2), u8 (VS.L v 3), u8 (VS.L v 4), u8 (VS.L v 5), u8 (VS.L v 6), u8 (VS.L v 7)]), (b_2, Ob.cells [u8 (0 : Int), u8 (0 : Int), u8 (0 : Int), u32 (0 : Int), u32 (0 : Int)])], gl := fun x => none }) (by kernel_rfl) ?_
    repeat' (first | exact rfl | exact Nat.le_of_ble_eq_true rfl | refine And.intro ?_ ?_ | intro _ | refine bsplit_mk (fun _ => ?_) (fun _ => ?_))
    all_goals first
      | exact first_rem h ho'
      | exact want7 Γ b _ _ r v h Q hQ 9 0 rfl rfl
      | (clear hQ; trace_state)
  | some m =>
    rw [ho] at hQ
    have ho' : (v.ms.find? (Ros.remB r v)).map Ros.remC = some (Ros.remC m) := by rw [ho]; rfl
    refine TCalls.of Try.func61 rfl (CanCall.of Try.func61 rfl (by decide)) [0] fun Γ => ?_
    refine run_sound (⟨fun | 3, 4 => told (.tup [.agg (cmdC (Ros.remC m)), bool true]) [0] (obsR b r) | _, _ => .no, [((0, 6), ([0, 3, 4], 3))], fun  | _ => none⟩) 400 (B := ∀ (b_1 b_2 : Nat), b_1 = b_1 ∧ TCalls Try.prog 94 [T.ptr 0 b 0, T.agg [u32 (VS.e v), T.sl 3 (mems (VS.ms v)), u8 (VS.L v 0), u8 (VS.L v 1), u8 (VS.L v 2), u8 (VS.L v 3), u8 (VS.L v 4), u8 (VS.L v 5), u8 (VS.L v 6), u8 (VS.L v 7)], T.fb 95 [T.ptr 0 b 0]] [(b, Ob.cells (rosC r))] (fun x => none) (callPost (Hint.call false Unit (fun x => True) [0] false (fun x => T.tup [T.agg (cmdC (Ros.remC m)), bool true]) (fun x => obsR b r) fun x => none_)) ∧ ∀ (a : Unit), True → ∀ (b_3 : Nat), (5 = nat_lit 5 ∧ List.all [u8 (Cmd.k (Ros.remC m)), u8 (Cmd.n (Ros.remC m)), u8 (Cmd.l (Ros.remC m)), u32 (Cmd.e (Ros.remC m)), u32 (Cmd.q (Ros.remC m))] T.one = true) ∧ b_3 = b_3 ∧ 0 + nat_lit 5 ≤ 5 ∧ b_3 = b_3 ∧ (5 = nat_lit 5 ∧ List.all [u8 (Cmd.k (Ros.remC m)), u8 (Cmd.n (Ros.remC m)), u8 (Cmd.l (Ros.remC m)), u32 (Cmd.e (Ros.remC m)), u32 (Cmd.q (Ros.remC m))] T.one = true) ∧ b_2 = b_2 ∧ 0 + nat_lit 5 ≤ 5 ∧ b_2 = b_2 ∧ Q (T.tup [T.agg [u8 (Cmd.k (Ros.remC m)), u8 (Cmd.n (Ros.remC m)), u8 (Cmd.l (Ros.remC m)), u32 (Cmd.e (Ros.remC m)), u32 (Cmd.q (Ros.remC m))], bool true]) [(b, Ob.cells (rosC r))] fun x => none) (by kernel_rfl) ?_
    repeat' (first | exact rfl | exact Nat.le_of_ble_eq_true rfl | refine And.intro ?_ ?_ | intro _ | refine bsplit_mk (fun _ => ?_) (fun _ => ?_))
    all_goals first
      | exact first_rem h ho'
      | exact hQ _ rfl
      | (clear hQ; trace_state)
theorem new_any (su wa : Int) (hs : 1 ≤ su ∧ su ≤ 1000) (hw : 1 ≤ wa ∧ wa ≤ 1000) (Q : T → Obs → Glb → Prop) (hQ : ∀ b, Q (.tup [.ptr 0 b 0, int 0]) (obsR b (Ros.newR su wa)) none_) : TCalls Try.prog 58 [int su, int wa] [] none_ Q := by
  refine TCalls.of Try.func58 rfl (CanCall.of Try.func58 rfl (by decide)) [0] fun Γ => ?_
  refine run_sound (⟨fun | 1, 1 => told (bool true) [] [] | 1, 5 => told (bool true) [] [] | _, _ => .no, [], fun  | _ => none⟩) 400 (B := TCalls Try.prog 93 [int su, int (1000 : Int)] [] (fun x => none) (callPost (Hint.call false Unit (fun x => True) [] false (fun x => bool true) (fun x => []) fun x => none_)) ∧ ∀ (a : Unit), True → TCalls Try.prog 93 [int wa, int (1000 : Int)] [] (fun x => none) (callPost (Hint.call false Unit (fun x => True) [] false (fun x => bool true) (fun x => []) fun x => none_)) ∧ ∀ (a : Unit), True → ∀ (b : Nat), Q (T.tup [T.ptr 0 b 0, int (0 : Int)]) [(b, Ob.cells [int su, int wa, int (0 : Int), u8 (0 : Int), u8 (0 : Int), u32 (0 : Int), u32 (0 : Int), bool false, int (0 : Int), u8 (0 : Int), u8 (0 : Int), u32 (0 : Int), u32 (0 : Int), bool false, int (0 : Int), u8 (0 : Int), u8 (0 : Int), u32 (0 : Int), u32 (0 : Int), bool false, int (0 : Int), u8 (0 : Int), u8 (0 : Int), u32 (0 : Int), u32 (0 : Int), bool false, int (0 : Int), u8 (0 : Int), u8 (0 : Int), u32 (0 : Int), u32 (0 : Int), bool false, int (0 : Int), u8 (0 : Int), u8 (0 : Int), u32 (0 : Int), u32 (0 : Int), bool false, int (0 : Int), u8 (0 : Int), u8 (0 : Int), u32 (0 : Int), u32 (0 : Int), bool false, int (0 : Int), u8 (0 : Int), u8 (0 : Int), u32 (0 : Int), u32 (0 : Int), bool false, int (0 : Int), u8 (0 : Int), u8 (0 : Int), u32 (0 : Int), u32 (0 : Int), bool false, int (0 : Int), int (0 : Int), int (0 : Int), int (0 : Int), int (0 : Int), int (0 : Int), int (0 : Int), int (0 : Int), int (0 : Int), int (0 : Int), u8 (0 : Int), u8 (0 : Int), u8 (0 : Int), u32 (0 : Int), u32 (0 : Int), u8 (0 : Int), u8 (0 : Int), u8 (0 : Int), u32 (0 : Int), u32 (0 : Int), u8 (0 : Int), u8 (0 : Int), u8 (0 : Int), u32 (0 : Int), u32 (0 : Int), u8 (0 : Int), u8 (0 : Int), u8 (0 : Int), u32 (0 : Int), u32 (0 : Int), u8 (0 : Int), u8 (0 : Int), u8 (0 : Int), u32 (0 : Int), u32 (0 : Int), u8 (0 : Int), u8 (0 : Int), u8 (0 : Int), u32 (0 : Int), u32 (0 : Int), u8 (0 : Int), u8 (0 : Int), u8 (0 : Int), u32 (0 : Int), u32 (0 : Int), u8 (0 : Int), u8 (0 : Int), u8 (0 : Int), u32 (0 : Int), u32 (0 : Int), u8 (0 : Int), u8 (0 : Int), u8 (0 : Int), u32 (0 : Int), u32 (0 : Int)])] fun x => none) (by kernel_rfl) ?_
  repeat' (first | exact rfl | exact Nat.le_of_ble_eq_true rfl | refine And.intro ?_ ?_ | intro _ | refine bsplit_mk (fun _ => ?_) (fun _ => ?_))
  all_goals first
    | exact within_yes _ _ hs
    | exact within_yes _ _ hw
    | exact hQ _
    | (exfalso; rename_i h; simp at h; done)
    | trace_state
end X15
end Go.Proofs.Ytidhblpcaccchaa.Vm
