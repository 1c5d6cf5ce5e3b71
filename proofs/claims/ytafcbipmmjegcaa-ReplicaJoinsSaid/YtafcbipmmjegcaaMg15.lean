/- Texts of this claim: VmLib, Tm, Str, View0, VA, VE. -/
import Derived.Test.YtafcbipmmjegcaaMg13
import Derived.Test.YtafcbipmmjegcaaProg
import Derived.KernelRfl
import Derived.IntWalk
import Derived.Test.YtafcbipmmjegcaaMg1
namespace Go.Proofs.Ytafcbipmmjegcaa.Vm
open Go Go.RowKit
def u8 (n : Int) : T := .v (.int .u8 n)
def u32 (n : Int) : T := .v (.int .u32 n)
def int (n : Int) : T := .v (.int .i64 n)
def bool (b : Bool) : T := .v (.bool b)
def none_ : Glb := fun _ => none
def frame (n : Nat) (l : List (Nat × T)) : List T := (List.range n).map fun i => (l.lookup i).getD .und
theorem wrap_i64 {x : Int} (h0 : -9223372036854775808 ≤ x) (h1 : x ≤ 9223372036854775807) : IntKind.wrap .i64 x = x := IntWalk.i64_in _ (by omega)
def told (r : T) (sel : List Nat) (ob : Obs) : Hint := .call false Unit (fun _ => True) sel false (fun _ => r) (fun _ => ob) (fun _ => none_)
theorem told_post {r r' : T} {sel : List Nat} {ob ob' : Obs} {gl' : Glb} (hr : r' = r) (hl : sel.length ≤ ob.length := by exact Nat.le_of_ble_eq_true rfl) (ho : ob' = ob := by rfl) : callPost (.call false Unit (fun _ => True) sel false (fun _ => r) (fun _ => ob) (fun _ => none_)) r' ob' gl' :=
 ⟨(), trivial, hr, ho, ho ▸ hl, fun e => by cases e⟩
def toldG (r : T) (sel : List Nat) (ob : Obs) (gl : Glb) : Hint := .call false Unit (fun _ => True) sel true (fun _ => r) (fun _ => ob) (fun _ => gl)
theorem toldG_post {r r' : T} {sel : List Nat} {ob ob' : Obs} {gl gl' : Glb} (hr : r' = r) (hl : sel.length ≤ ob.length := by exact Nat.le_of_ble_eq_true rfl) (ho : ob' = ob := by rfl) (hg : gl' = gl := by rfl) : callPost (.call false Unit (fun _ => True) sel true (fun _ => r) (fun _ => ob) (fun _ => gl)) r' ob' gl' :=
 ⟨(), trivial, hr, ho, ho ▸ hl, fun _ => hg⟩
end Go.Proofs.Ytafcbipmmjegcaa.Vm
namespace Go.Proofs.Ytafcbipmmjegcaa.Vm
open Go Go.RowKit
theorem Ya {p q : Prop} (h : p) (k : q) : p ∧ q := ⟨h, k⟩
theorem Ye {α : Type _} (a : α) : a = a := rfl
theorem Yn (a b : Nat) (h : Nat.ble a b = true) : a ≤ b := Nat.le_of_ble_eq_true h
theorem Ys {A B : Prop} (c : Bool) (f : c = true → A) (g : c = false → B) : bsplit c A B := bsplit_mk f g
theorem Yu {p : Prop} (h : p) : Unit → True → p := fun _ _ => h
theorem Yt : True := True.intro
theorem Yb {α : Type _} {q : Prop} (a : α) (k : q) : a = a ∧ q := ⟨rfl, k⟩
theorem Yi {q : Prop} (k : Int) (n : Nat) (h : 0 ≤ k ∧ k < (n : Int)) (x : q) : (0 ≤ k ∧ k < (n : Int)) ∧ q := ⟨h, x⟩
def Hint.bare : Hint → Hint
 | .plainAt _ h => h.bare
 | .plain h => h.bare
 | h => h
abbrev Hint.P (h : Hint) : T → Obs → Glb → Prop := callPost h.bare
theorem Yk {q : Prop} (n b : Nat) (k : q) : (n = n ∧ true = true) ∧ b = b ∧ n ≤ n ∧ q := ⟨⟨rfl, rfl⟩, rfl, Nat.le_refl n, k⟩
theorem Yl {q : Prop} (n : Nat) (k : q) : (n = n ∧ true = true) ∧ q := ⟨⟨rfl, rfl⟩, k⟩
end Go.Proofs.Ytafcbipmmjegcaa.Vm
namespace Go.Proofs.Ytafcbipmmjegcaa.Vm
open Go Go.RowKit
def str (l : List UInt8) : T := .v (.string ⟨l.toArray⟩)
end Go.Proofs.Ytafcbipmmjegcaa.Vm
namespace Go.Proofs.Ytafcbipmmjegcaa
open Go.RowKit
namespace View
structure Mem where
 node : Nat
 life : Nat
 ready : Bool
 deriving DecidableEq
def Mem.cells (m : Mem) : List Value := [.int .u8 m.node, .int .u8 m.life, .bool m.ready]
def upd (L : Nat → Nat) (k x : Nat) : Nat → Nat := fun i => if i = k then x else L i
structure VS where
 e : Int
 ms : List Mem
 L : Nat → Nat
def atN (ms : List Mem) (x : Nat) : Option Nat := ms.findIdx? (fun m => m.node == x)
def atI (ms : List Mem) (x : Nat) : Int := match atN ms x with | some k => k | none => -1
def ready (ms : List Mem) : Nat := (ms.filter (·.ready)).length
def next (v : VS) (l : List Mem) : VS × Bool := if v.e = 4294967295 then (v, false) else (⟨v.e + 1, l, v.L⟩, true)
def may (v : VS) (node life : Nat) : Bool := decide (1 ≤ node ∧ node ≤ 8 ∧ 1 ≤ life ∧ life ≤ 200 ∧ atN v.ms node = none ∧ v.ms.length < 8 ∧ v.L (node - 1) < life)
def addV (v : VS) (node life : Nat) : VS × Bool :=
 if may v node life then (if v.e = 4294967295 then (v, false) else (⟨v.e + 1, v.ms ++ [⟨node, life, false⟩], upd v.L (node - 1) life⟩, true)) else (v, false)
def removeV (v : VS) (i : Nat) : VS × Bool := if ready (v.ms.eraseIdx i) = 0 then (v, false) else next v (v.ms.eraseIdx i)
def applyV (v : VS) (kind node life : Nat) (epoch : Int) : VS × Bool :=
 if kind = 0 then (v, true) else if kind = 1 then addV v node life else
 match atN v.ms node with
 | none => (v, false)
 | some i =>
  match v.ms[i]? with
  | none => (v, false)
  | some m => if m.life ≠ life then (v, false) else if kind = 2 then removeV v i else if kind = 3 then (⟨v.e, v.ms.set i { m with ready := true }, v.L⟩, true) else (v, decide (kind = 4 ∧ epoch = v.e))
theorem atN_some {ms : List Mem} {x k : Nat} (h : atN ms x = some k) : ∃ hk : k < ms.length, ms[k].node = x ∧ ∀ j (hj : j < k), ms[j].node ≠ x := by
 unfold atN at h
 rw [List.findIdx?_eq_some_iff_getElem] at h
 obtain ⟨hk, h1, h2⟩ := h
 refine ⟨hk, by simpa using h1, fun j hj => by simpa using h2 j hj⟩
theorem atI_of {ms : List Mem} {x k : Nat} (hk : k < ms.length) (h1 : ms[k].node = x) (h2 : ∀ j (hj : j < k), ms[j].node ≠ x) : atI ms x = k := by
 have : atN ms x = some k := by
  unfold atN
  rw [List.findIdx?_eq_some_iff_getElem]
  exact ⟨hk, by simpa using h1, fun j hj => by simpa using h2 j hj⟩
 simp [atI, this]
theorem atI_none {ms : List Mem} {x : Nat} (h : ∀ k (hk : k < ms.length), ms[k].node ≠ x) : atI ms x = -1 := by
 have : atN ms x = none := by
  unfold atN
  rw [List.findIdx?_eq_none_iff]
  intro m hm
  obtain ⟨k, hk, rfl⟩ := List.mem_iff_getElem.1 hm
  simpa using h k hk
 simp [atI, this]
theorem atI_lt (ms : List Mem) (x : Nat) : atI ms x < ms.length ∧ -1 ≤ atI ms x := by
 unfold atI
 split
 ·rename_i k hk; obtain ⟨h, _⟩ := atN_some hk; omega
 ·omega
end View
end Go.Proofs.Ytafcbipmmjegcaa
namespace Go.Proofs.Ytafcbipmmjegcaa.Vm
open Go Go.RowKit
set_option maxRecDepth 100000
namespace X5
open View (Mem VS atN atI ready)
def memC (m : Mem) : List T := [u8 m.node, u8 m.life, bool m.ready]
def mems (l : List Mem) : List T := l.map fun m => .agg (memC m)
theorem mems_len (l : List Mem) : (mems l).length = l.length := by simp [mems]
def vwT (e : Int) (l : T) (L : Nat → Nat) : List T := [u32 e, l, u8 (L 0), u8 (L 1), u8 (L 2), u8 (L 3), u8 (L 4), u8 (L 5), u8 (L 6), u8 (L 7)]
def viewC (v : VS) : List T := vwT v.e (.sl 3 (mems v.ms)) v.L
def lim (l : List Mem) : Prop := l.length ≤ 1000000
theorem atC_any (m : Mem) (b : Nat) (x : Nat) (Q : T → Obs → Glb → Prop) (hQ : ∀ r, r = bool (m.node == x) → Q r [(b, .cells [u8 x])] none_) : TCalls Try.prog 91 [.agg (memC m), .ptr 0 b 0] [(b, .cells [u8 x])] none_ Q := by
 refine TCalls.of Try.func91 rfl (CanCall.of Try.func91 rfl (by decide)) [0] fun Γ => ?_
 refine run_sound (⟨fun _ _ => .no, [], fun _ => none⟩) 400 (B := ∀ (b_1 : Nat), b_1 = b_1 ∧ b = b ∧ Q (T.v (Value.bool ((↑(Mem.node m) : Int) == (↑x : Int)))) [(b, Ob.cells [T.v (Value.int IntKind.u8 (↑x : Int))])] fun x => none) (by kernel_rfl) ?_
 repeat' (first | exact rfl | exact Nat.le_of_ble_eq_true rfl | refine And.intro ?_ ?_ | intro _ | refine bsplit_mk (fun _ => ?_) (fun _ => ?_))
 refine hQ _ (congrArg (fun b => T.v (Value.bool b)) ?_)
 rw [Bool.eq_iff_iff]
 simp only [beq_iff_eq]
 omega
theorem indexF_loop (Γ : Ctx) (b : Nat) (x : Nat) (l : List Mem) (hl : lim l) (Q : T → Obs → Glb → Prop) (hQ : ∀ r, r = int (atI l x) → Q r [(b, .cells [u8 x])] none_) : ∀ (r d : List Mem) (k : Int), l = d ++ r → k = d.length → (∀ m ∈ d, m.node ≠ x) →
  TWk Try.prog Γ (fin Try.prog Try.f90 [0] Q) [.code (sub (bd Try.f90) [1, 0, 1, 0]), .blk 0, .code (sub (bd Try.f90) [1, 1])] ⟨frame 19 [(0, .sl 3 (mems l)), (1, .fn 91 [.ptr 0 b 0]), (7, int (mems l).length), (8, int k)], [(b, .cells [u8 x])], none_⟩ := by
 intro r
 induction r with
 | nil =>
  intro d k hd hk hno
  refine run_sound (⟨fun | 4, 3 => .res .und | 4, 5 => told (bool true) [0] [] | _, _ => .no, [((2, 2), ([0, 1, 7, 8], 1))], fun  | _ => none⟩) 400 (B := bsplit (decide (k < (↑(List.length (mems l)) : Int))) ((0 : Int) ≤ k ∧ (mems l)[Int.toNat k]? = some T.und ∧ False) (Q (T.v (Value.int IntKind.i64 (-1 : Int))) [(b, Ob.cells [T.v (Value.int IntKind.u8 (↑x : Int))])] fun x => none)) (by kernel_rfl) ?_
  refine bsplit_mk (fun h => by simp [hd, hk, mems] at h) (fun _ => hQ _ ?_)
  rw [View.atI_none (fun k hk e => hno l[k] (by rw [show d = l by simpa using hd.symm]; simp) e)]; rfl
 | cons m r ih =>
  intro d k hd hk hno
  refine run_sound (⟨fun | 4, 3 => .res (.agg (memC m)) | 4, 5 => told (bool (m.node == x)) [0] [(b, .cells [u8 x])] | _, _ => .no, [((2, 2), ([0, 1, 7, 8], 1))], fun  | _ => none⟩) 400 (B := bsplit (decide (k < (↑(List.length (mems l)) : Int))) ((0 : Int) ≤ k ∧ (mems l)[Int.toNat k]? = some (T.agg [T.v (Value.int IntKind.u8 (↑(Mem.node m) : Int)), T.v (Value.int IntKind.u8 (↑(Mem.life m) : Int)), T.v (Value.bool (Mem.ready m))]) ∧ TCalls Try.prog (91 : Nat) [T.agg [T.v (Value.int IntKind.u8 (↑(Mem.node m) : Int)), T.v (Value.int IntKind.u8 (↑(Mem.life m) : Int)), T.v (Value.bool (Mem.ready m))], T.ptr (0 : Nat) b (0 : Nat)] [(b, Ob.cells [T.v (Value.int IntKind.u8 (↑x : Int))])] (fun x => none) (callPost (Hint.call false Unit (fun x => True) [(0 : Nat)] false (fun x_1 => bool (Mem.node m == x)) (fun x_1 => [(b, Ob.cells [u8 (↑x : Int)])]) fun x => none_)) ∧ ∀ (a : Unit), True → bsplit (Mem.node m == x) (Q (T.v (Value.int IntKind.i64 k)) [(b, Ob.cells [T.v (Value.int IntKind.u8 (↑x : Int))])] fun x => none) (TWk Try.prog Γ (fin Try.prog Try.f90 [(0 : Nat)] Q) [It.code (sub (bd Try.f90) [(1 : Nat), (0 : Nat), (1 : Nat), (0 : Nat)]), It.blk (0 : Nat), It.code (sub (bd Try.f90) [(1 : Nat), (1 : Nat)])] { fr := [T.sl (3 : Nat) (mems l), T.fn (91 : Nat) [T.ptr (0 : Nat) b (0 : Nat)], T.und, T.und, T.und, T.und, T.und, T.v (Value.int IntKind.i64 (↑(List.length (mems l)) : Int)), T.v (Value.int IntKind.i64 (IntKind.wrap IntKind.i64 (k + (1 : Int)))), T.und, T.und, T.und, T.und, T.und, T.und, T.und, T.und, T.und, T.und], ob := [(b, Ob.cells [T.v (Value.int IntKind.u8 (↑x : Int))])], gl := fun x => none })) (Q (T.v (Value.int IntKind.i64 (-1 : Int))) [(b, Ob.cells [T.v (Value.int IntKind.u8 (↑x : Int))])] fun x => none)) (by kernel_rfl) ?_
  have hl' : d.length < 1000000 := by have := hl; rw [lim, hd, List.length_append, List.length_cons] at this; omega
  rw [show IntKind.wrap .i64 (k + 1) = k + 1 from wrap_i64 (by omega) (by omega)]
  refine bsplit_mk (fun _ => ⟨by omega, by simp [hd, hk, mems]; rfl, atC_any m b x _ (fun r h => told_post h), fun _ _ => bsplit_mk (fun h => hQ _ ?_) (fun h => ?_)⟩) (fun h => by simp [hd, hk, mems] at h; omega)
  ·have hx : m.node = x := by simpa using h
   have hkl : d.length < l.length := by rw [hd]; simp
   rw [View.atI_of (k := d.length) hkl (by simp [hd, hx]) (fun j hj => by
    have : l[j] = d[j] := by simp [hd, List.getElem_append_left hj]
    rw [this]; exact hno _ (by simp)), hk]; rfl
  ·exact ih (d ++ [m]) (k + 1) (by simp [hd]) (by simp [hk]) (fun m' hm' => by
    rcases List.mem_append.1 hm' with h1 | h1
    ·exact hno m' h1
    ·simp at h1; subst h1; simpa using h)
theorem indexF_any (b : Nat) (x : Nat) (l : List Mem) (hl : lim l) (Q : T → Obs → Glb → Prop) (hQ : ∀ r, r = int (atI l x) → Q r [(b, .cells [u8 x])] none_) : TCalls Try.prog 90 [.sl 3 (mems l), .fn 91 [.ptr 0 b 0]] [(b, .cells [u8 x])] none_ Q := by
 refine TCalls.of Try.func90 rfl (CanCall.of Try.func90 rfl (by decide)) [0] fun Γ => ?_
 refine run_sound (⟨fun _ _ => .no, [((2, 2), ([0, 1, 7, 8], 1))], fun _ => none⟩) 400 (B := TWk Try.prog Γ (fin Try.prog Try.f90 [(0 : Nat)] Q) [It.code (sub (bd Try.f90) [(1 : Nat), (0 : Nat), (1 : Nat), (0 : Nat)]), It.blk (0 : Nat), It.code (sub (bd Try.f90) [(1 : Nat), (1 : Nat)])] { fr := [T.sl (3 : Nat) (mems l), T.fn (91 : Nat) [T.ptr (0 : Nat) b (0 : Nat)], T.und, T.und, T.und, T.und, T.und, T.v (Value.int IntKind.i64 (↑(List.length (mems l)) : Int)), T.v (Value.int IntKind.i64 (0 : Int)), T.und, T.und, T.und, T.und, T.und, T.und, T.und, T.und, T.und, T.und], ob := [(b, Ob.cells [T.v (Value.int IntKind.u8 (↑x : Int))])], gl := fun x => none }) (by kernel_rfl) ?_
 exact indexF_loop Γ b x l hl Q hQ l [] 0 rfl rfl (by simp)
theorem at_any (v : VS) (x : Nat) (hl : lim v.ms) (Q : T → Obs → Glb → Prop) (hQ : ∀ r, r = int (atI v.ms x) → Q r [] none_) : TCalls Try.prog 58 [.agg (viewC v), u8 x] [] none_ Q := by
 refine TCalls.of Try.func58 rfl (CanCall.of Try.func58 rfl (by decide)) [] fun Γ => ?_
 refine run_sound (⟨fun | 1, 3 => .withB fun B => told (int (atI v.ms x)) [1] [(B.getD 1 0, .cells [u8 x])] | _, _ => .no, [], fun  | _ => none⟩) 400 (B := ∀ (b b_1 : Nat), b = b ∧ TCalls Try.prog (90 : Nat) [T.sl (3 : Nat) (mems (VS.ms v)), T.fn (91 : Nat) [T.ptr (0 : Nat) b_1 (0 : Nat)]] [(b_1, Ob.cells [T.v (Value.int IntKind.u8 (↑x : Int))])] (fun x => none) (callPost (Hint.call false Unit (fun x => True) [(1 : Nat)] false (fun x_1 => int (atI (VS.ms v) x)) (fun x_1 => [(b_1, Ob.cells [u8 (↑x : Int)])]) fun x => none_)) ∧ ∀ (a : Unit), True → Q (T.v (Value.int IntKind.i64 (atI (VS.ms v) x))) [] fun x => none) (by kernel_rfl) ?_
 repeat' (first | exact rfl | exact Nat.le_of_ble_eq_true rfl | refine And.intro ?_ ?_ | intro _ | refine bsplit_mk (fun _ => ?_) (fun _ => ?_))
 ·exact indexF_any _ x v.ms hl _ fun r h => told_post h
 ·exact hQ _ rfl
def flat (l : List Mem) : List T := l.flatMap memC
theorem flat_len (l : List Mem) : (flat l).length = l.length * 3 := by
 induction l with
 | nil => rfl
 | cons m l ih => simp only [flat, List.flatMap_cons, List.length_append] at ih ⊢; rw [ih]; simp [memC]; omega
theorem mems_flat (l : List Mem) : (mems l).flatMap elCells = flat l := by simp [mems, flat, List.flatMap_map, elCells]
theorem clone_any (l : List Mem) (hl : lim l) (Q : T → Obs → Glb → Prop) (hQ0 : l = [] → Q (.v nilS) [] none_) (hQ1 : l = [] → Q .s0 [] none_)
  (hQ : l ≠ [] → ∀ g cap, l.length ≤ cap → cap ≤ 9223372036854775807 → Q (.sa 0 g 0 l.length cap) [(g, .cells (flat l ++ List.replicate ((cap - l.length) * 3) T.und))] none_) : TCalls Try.prog 32 [.sl 3 (mems l)] [] none_ Q := by
 by_cases he : l = []
 ·subst he
  refine TCalls.of Try.func32 rfl (CanCall.of Try.func32 rfl (by decide)) [] fun Γ => ?_
  refine run_sound (⟨fun | 3, 0 => .glob | _, _ => .no, [], fun  | _ => none⟩) 400 (B := ((0 : Nat) = (0 : Nat) → Q (T.v (Value.slice none (0 : Nat) (0 : Nat))) [] fun x => none) ∧ ((0 : Nat) = (0 : Nat) → Q T.s0 [] fun x => none) ∧ ((0 : Nat) ≠ (0 : Nat) → Fits (0 : Nat) (nat_lit 3) ∧ ∀ (g cap : Nat), (0 : Nat) ≤ cap → cap ≤ (9223372036854775807 : Nat) → Q (T.sa (0 : Nat) g (0 : Nat) (0 : Nat) cap) [] fun x => none)) (by kernel_rfl) ?_
  exact ⟨fun _ => hQ0 rfl, fun _ => hQ1 rfl, fun h => absurd rfl h⟩
 ·have hne : mems l ≠ [] := by simpa [mems] using he
  refine TCalls.of Try.func32 rfl (CanCall.of Try.func32 rfl (by decide)) [0] fun Γ => ?_
  refine run_sound (⟨fun | 3, 0 => .glob | _, _ => .no, [], fun  | _ => none⟩) 400 (B := (List.length (mems l) = (0 : Nat) → False) ∧ (List.length (mems l) = (0 : Nat) → False) ∧ (List.length (mems l) ≠ (0 : Nat) → Fits (List.length (mems l)) (nat_lit 3) ∧ ∀ (g cap : Nat), List.length (mems l) ≤ cap → cap ≤ (9223372036854775807 : Nat) → Q (T.sa (0 : Nat) g (0 : Nat) (List.length (mems l)) cap) [(g, Ob.cells (List.flatMap elCells (mems l) ++ List.replicate ((cap - List.length (mems l)) * nat_lit 3) T.und))] fun x => none)) (by kernel_rfl) ?_
  refine ⟨fun h => hne (List.eq_nil_of_length_eq_zero h), fun h => hne (List.eq_nil_of_length_eq_zero h), fun _ => ⟨by have := hl; rw [lim] at this; simp [mems_len, Fits, maxLen]; omega, fun g cap h1 h2 => ?_⟩⟩
  rw [mems_len] at h1
  rw [mems_flat, mems_len]
  exact hQ he g cap h1 h2
theorem clone_nil (Q : T → Obs → Glb → Prop) (hQ : Q .s0 [] none_) : TCalls Try.prog 32 [.sl 3 (mems [])] [] none_ Q := by
 refine TCalls.postM (clone_any [] (by simp [lim]) (fun r ob gl => (r = .v nilS ∨ r = .s0) ∧ ob = [] ∧ gl = none_) (fun _ => ⟨.inl rfl, rfl, rfl⟩) (fun _ => ⟨.inr rfl, rfl, rfl⟩) (fun h => absurd rfl h)) ?_
 rintro r ob gl ⟨hr, rfl, rfl⟩
 refine ⟨.s0, [], none_, ?_, hQ⟩
 rcases hr with rfl|rfl
 ·exact Imp.toM (Imp.slotR (ts := [.v nilS]) (j := 0) (t' := .s0) rfl fun M v r => by simp only [Rel] at r ⊢; exact ⟨none, r⟩)
 ·exact Imp.toM (Imp.refl _ _ _)
theorem flat_append (a b : List Mem) : flat (a ++ b) = flat a ++ flat b := by simp [flat]
theorem flat_one (l : List Mem) : (flat l).all T.one = true := by
 rw [List.all_eq_true]
 intro x hx
 obtain ⟨m, _, h⟩ := List.mem_flatMap.1 hx
 simp [memC] at h
 rcases h with rfl|rfl|rfl <;> rfl
theorem flat_plain (l : List Mem) : (flat l).all noIx = true := by
 rw [List.all_eq_true]
 intro x hx
 obtain ⟨m, _, h⟩ := List.mem_flatMap.1 hx
 simp [memC] at h
 rcases h with rfl|rfl|rfl <;> rfl
theorem room_plain (l : List Mem) (k : Nat) : (flat l ++ List.replicate k T.und).all noIx = true := by
 rw [List.all_append, flat_plain, Bool.true_and, List.all_eq_true]
 intro x hx
 rw [(List.mem_replicate.1 hx).2]; rfl
theorem all_drop {f : T → Bool} {l : List T} (h : l.all f = true) (k : Nat) : (l.drop k).all f = true := by
 rw [List.all_eq_true] at h ⊢
 exact fun x hx => h x (List.mem_of_mem_drop hx)
end X5
end Go.Proofs.Ytafcbipmmjegcaa.Vm
namespace Go.Proofs.Ytafcbipmmjegcaa.Vm
open Go Go.RowKit
set_option maxRecDepth 100000
namespace X5
open View (Mem VS atN atI ready)
def memI (l : List Mem) (i : Int) : Mem := (l[i.toNat]?).getD ⟨0, 0, false⟩
theorem mems_get {l : List Mem} {i : Int} (h0 : 0 ≤ i) (h1 : i < l.length) : (mems l)[i.toNat]? = some (.agg (memC (memI l i))) := by
 have h : i.toNat < l.length := by omega
 rw [mems, List.getElem?_map, memI, List.getElem?_eq_getElem h]; rfl
theorem atI_lt (l : List Mem) (x : Nat) : atI l x < l.length ∧ -1 ≤ atI l x := View.atI_lt l x
def findV (l : List Mem) (x : Nat) : Mem × Bool := if atI l x < 0 then (⟨0, 0, false⟩, false) else (memI l (atI l x), true)
def hasV (l : List Mem) (x y : Nat) : Bool := (findV l x).2 && (findV l x).1.life == y
def aheadV (l : List Mem) (x : Nat) : Nat := if 0 < atI l x then (memI l (atI l x - 1)).node else 0
def behindV (l : List Mem) (x : Nat) : Nat := if 0 ≤ atI l x ∧ atI l x + 1 < l.length then (memI l (atI l x + 1)).node else 0
theorem find_any (v : VS) (x : Nat) (hl : lim v.ms) (Q : T → Obs → Glb → Prop) (hQ : ∀ r, r = .tup [.agg (memC (findV v.ms x).1), bool (findV v.ms x).2] → Q r [] none_) : TCalls Try.prog 97 [.agg (viewC v), u8 x] [] none_ Q := by
 refine TCalls.of Try.func97 rfl (CanCall.of Try.func97 rfl (by decide)) [] fun Γ => ?_
 refine run_sound (⟨fun | 1, 2 => told (int (atI v.ms x)) [] [] | 4, 3 => .res (.agg (memC (memI v.ms (atI v.ms x)))) | _, _ => .no, [], fun  | _ => none⟩) 400 (B := ∀ (b b_1 : Nat), b = b ∧ TCalls Try.prog (58 : Nat) [T.agg [T.v (Value.int IntKind.u32 (VS.e v)), T.sl (3 : Nat) (mems (VS.ms v)), T.v (Value.int IntKind.u8 (↑(VS.L v (0 : Nat)) : Int)), T.v (Value.int IntKind.u8 (↑(VS.L v (1 : Nat)) : Int)), T.v (Value.int IntKind.u8 (↑(VS.L v (2 : Nat)) : Int)), T.v (Value.int IntKind.u8 (↑(VS.L v (3 : Nat)) : Int)), T.v (Value.int IntKind.u8 (↑(VS.L v (4 : Nat)) : Int)), T.v (Value.int IntKind.u8 (↑(VS.L v (5 : Nat)) : Int)), T.v (Value.int IntKind.u8 (↑(VS.L v (6 : Nat)) : Int)), T.v (Value.int IntKind.u8 (↑(VS.L v (7 : Nat)) : Int))], T.v (Value.int IntKind.u8 (↑x : Int))] [] (fun x => none) (callPost (Hint.call false Unit (fun x => True) [] false (fun x_1 => int (atI (VS.ms v) x)) (fun x => []) fun x => none_)) ∧ ∀ (a : Unit), True → bsplit (decide (atI (VS.ms v) x < (0 : Int))) (((3 : Nat) = nat_lit 3 ∧ List.all [T.v (Value.int IntKind.u8 (0 : Int)), T.v (Value.int IntKind.u8 (0 : Int)), T.v (Value.bool false)] T.one = true) ∧ b_1 = b_1 ∧ (0 : Nat) + nat_lit 3 ≤ (3 : Nat) ∧ b_1 = b_1 ∧ Q (T.tup [T.agg [T.v (Value.int IntKind.u8 (0 : Int)), T.v (Value.int IntKind.u8 (0 : Int)), T.v (Value.bool false)], T.v (Value.bool false)]) [] fun x => none) (b = b ∧ (0 : Int) ≤ atI (VS.ms v) x ∧ (mems (VS.ms v))[Int.toNat (atI (VS.ms v) x)]? = some (T.agg [T.v (Value.int IntKind.u8 (↑(Mem.node (memI (VS.ms v) (atI (VS.ms v) x))) : Int)), T.v (Value.int IntKind.u8 (↑(Mem.life (memI (VS.ms v) (atI (VS.ms v) x))) : Int)), T.v (Value.bool (Mem.ready (memI (VS.ms v) (atI (VS.ms v) x))))]) ∧ ((3 : Nat) = nat_lit 3 ∧ List.all [T.v (Value.int IntKind.u8 (↑(Mem.node (memI (VS.ms v) (atI (VS.ms v) x))) : Int)), T.v (Value.int IntKind.u8 (↑(Mem.life (memI (VS.ms v) (atI (VS.ms v) x))) : Int)), T.v (Value.bool (Mem.ready (memI (VS.ms v) (atI (VS.ms v) x))))] T.one = true) ∧ b_1 = b_1 ∧ (0 : Nat) + nat_lit 3 ≤ (3 : Nat) ∧ b_1 = b_1 ∧ Q (T.tup [T.agg [T.v (Value.int IntKind.u8 (↑(Mem.node (memI (VS.ms v) (atI (VS.ms v) x))) : Int)), T.v (Value.int IntKind.u8 (↑(Mem.life (memI (VS.ms v) (atI (VS.ms v) x))) : Int)), T.v (Value.bool (Mem.ready (memI (VS.ms v) (atI (VS.ms v) x))))], T.v (Value.bool true)]) [] fun x => none)) (by kernel_rfl) ?_
 have ha := atI_lt v.ms x
 repeat' (first | exact rfl | exact Nat.le_of_ble_eq_true rfl | refine And.intro ?_ ?_ | intro _ | refine bsplit_mk (fun _ => ?_) (fun _ => ?_))
 ·exact at_any v x hl _ (fun r h => told_post h)
 ·rename_i h; exact hQ _ (by rw [findV, if_pos (by simpa using h)]; rfl)
 ·rename_i h; simp at h; omega
 ·rename_i h; simp at h; exact mems_get h ha.1
 ·rename_i h; exact hQ _ (by rw [findV, if_neg (by simpa using h)]; rfl)
theorem has_any (v : VS) (x y : Nat) (hl : lim v.ms) (Q : T → Obs → Glb → Prop) (hQ : ∀ r, r = bool (hasV v.ms x y) → Q r [] none_) : TCalls Try.prog 69 [.agg (viewC v), u8 x, u8 y] [] none_ Q := by
 refine TCalls.of Try.func69 rfl (CanCall.of Try.func69 rfl (by decide)) [] fun Γ => ?_
 refine run_sound (⟨fun | 1, 2 => told (.tup [.agg (memC (findV v.ms x).1), bool (findV v.ms x).2]) [] [] | _, _ => .no, [], fun  | _ => none⟩) 400 (B := ∀ (b : Nat), b = b ∧ TCalls Try.prog (97 : Nat) [T.agg [T.v (Value.int IntKind.u32 (VS.e v)), T.sl (3 : Nat) (mems (VS.ms v)), T.v (Value.int IntKind.u8 (↑(VS.L v (0 : Nat)) : Int)), T.v (Value.int IntKind.u8 (↑(VS.L v (1 : Nat)) : Int)), T.v (Value.int IntKind.u8 (↑(VS.L v (2 : Nat)) : Int)), T.v (Value.int IntKind.u8 (↑(VS.L v (3 : Nat)) : Int)), T.v (Value.int IntKind.u8 (↑(VS.L v (4 : Nat)) : Int)), T.v (Value.int IntKind.u8 (↑(VS.L v (5 : Nat)) : Int)), T.v (Value.int IntKind.u8 (↑(VS.L v (6 : Nat)) : Int)), T.v (Value.int IntKind.u8 (↑(VS.L v (7 : Nat)) : Int))], T.v (Value.int IntKind.u8 (↑x : Int))] [] (fun x => none) (callPost (Hint.call false Unit (fun x => True) [] false (fun x_1 => T.tup [T.agg (memC (Prod.fst (findV (VS.ms v) x))), bool (Prod.snd (findV (VS.ms v) x))]) (fun x => []) fun x => none_)) ∧ ∀ (a : Unit), True → ∀ (b : Nat), ((3 : Nat) = nat_lit 3 ∧ List.all [T.v (Value.int IntKind.u8 (↑(Mem.node (Prod.fst (findV (VS.ms v) x))) : Int)), T.v (Value.int IntKind.u8 (↑(Mem.life (Prod.fst (findV (VS.ms v) x))) : Int)), T.v (Value.bool (Mem.ready (Prod.fst (findV (VS.ms v) x))))] T.one = true) ∧ b = b ∧ (0 : Nat) + nat_lit 3 ≤ (3 : Nat) ∧ bsplit (Prod.snd (findV (VS.ms v) x)) (b = b ∧ Q (T.v (Value.bool ((↑(Mem.life (Prod.fst (findV (VS.ms v) x))) : Int) == (↑y : Int)))) [] fun x => none) (Q (T.v (Value.bool false)) [] fun x => none)) (by kernel_rfl) ?_
 repeat' (first | exact rfl | exact Nat.le_of_ble_eq_true rfl | refine And.intro ?_ ?_ | intro _ | refine bsplit_mk (fun _ => ?_) (fun _ => ?_))
 ·exact find_any v x hl _ (fun r h => told_post h)
 ·rename_i h; exact hQ _ (by rw [hasV, h, Bool.true_and]; exact congrArg bool (by rw [Bool.eq_iff_iff]; simp only [beq_iff_eq]; omega))
 ·rename_i h; exact hQ _ (by rw [hasV, h, Bool.false_and]; rfl)
theorem ends_any (v : VS) (x : Nat) (hl : lim v.ms) (Q : T → Obs → Glb → Prop) (hQ : ∀ r, r = .tup [u8 (aheadV v.ms x), u8 (behindV v.ms x)] → Q r [] none_) : TCalls Try.prog 70 [.agg (viewC v), u8 x] [] none_ Q := by
 refine TCalls.of Try.func70 rfl (CanCall.of Try.func70 rfl (by decide)) [] fun Γ => ?_
 refine run_sound (⟨fun | 1, 2 => told (int (atI v.ms x)) [] [] | 3, 4 => .res (.agg (memC (memI v.ms (atI v.ms x - 1)))) | 5, 4 => .res (.agg (memC (memI v.ms (atI v.ms x + 1)))) | _, _ => .no, [], fun  | _ => none⟩) 400 (B := ∀ (b : Nat), b = b ∧ TCalls Try.prog (58 : Nat) [T.agg [T.v (Value.int IntKind.u32 (VS.e v)), T.sl (3 : Nat) (mems (VS.ms v)), T.v (Value.int IntKind.u8 (↑(VS.L v (0 : Nat)) : Int)), T.v (Value.int IntKind.u8 (↑(VS.L v (1 : Nat)) : Int)), T.v (Value.int IntKind.u8 (↑(VS.L v (2 : Nat)) : Int)), T.v (Value.int IntKind.u8 (↑(VS.L v (3 : Nat)) : Int)), T.v (Value.int IntKind.u8 (↑(VS.L v (4 : Nat)) : Int)), T.v (Value.int IntKind.u8 (↑(VS.L v (5 : Nat)) : Int)), T.v (Value.int IntKind.u8 (↑(VS.L v (6 : Nat)) : Int)), T.v (Value.int IntKind.u8 (↑(VS.L v (7 : Nat)) : Int))], T.v (Value.int IntKind.u8 (↑x : Int))] [] (fun x => none) (callPost (Hint.call false Unit (fun x => True) [] false (fun x_1 => int (atI (VS.ms v) x)) (fun x => []) fun x => none_)) ∧ ∀ (a : Unit), True → bsplit (decide (atI (VS.ms v) x > (0 : Int))) (b = b ∧ (0 : Int) ≤ IntKind.wrap IntKind.i64 (atI (VS.ms v) x - (1 : Int)) ∧ (mems (VS.ms v))[Int.toNat (IntKind.wrap IntKind.i64 (atI (VS.ms v) x - (1 : Int)))]? = some (T.agg [T.v (Value.int IntKind.u8 (↑(Mem.node (memI (VS.ms v) (atI (VS.ms v) x - (1 : Int)))) : Int)), T.v (Value.int IntKind.u8 (↑(Mem.life (memI (VS.ms v) (atI (VS.ms v) x - (1 : Int)))) : Int)), T.v (Value.bool (Mem.ready (memI (VS.ms v) (atI (VS.ms v) x - (1 : Int)))))]) ∧ bsplit (decide (atI (VS.ms v) x ≥ (0 : Int))) (b = b ∧ bsplit (decide (IntKind.wrap IntKind.i64 (atI (VS.ms v) x + (1 : Int)) < (↑(List.length (mems (VS.ms v))) : Int))) (b = b ∧ (0 : Int) ≤ IntKind.wrap IntKind.i64 (atI (VS.ms v) x + (1 : Int)) ∧ (mems (VS.ms v))[Int.toNat (IntKind.wrap IntKind.i64 (atI (VS.ms v) x + (1 : Int)))]? = some (T.agg [T.v (Value.int IntKind.u8 (↑(Mem.node (memI (VS.ms v) (atI (VS.ms v) x + (1 : Int)))) : Int)), T.v (Value.int IntKind.u8 (↑(Mem.life (memI (VS.ms v) (atI (VS.ms v) x + (1 : Int)))) : Int)), T.v (Value.bool (Mem.ready (memI (VS.ms v) (atI (VS.ms v) x + (1 : Int)))))]) ∧ Q (T.tup [T.v (Value.int IntKind.u8 (↑(Mem.node (memI (VS.ms v) (atI (VS.ms v) x - (1 : Int)))) : Int)), T.v (Value.int IntKind.u8 (↑(Mem.node (memI (VS.ms v) (atI (VS.ms v) x + (1 : Int)))) : Int))]) [] fun x => none) (Q (T.tup [T.v (Value.int IntKind.u8 (↑(Mem.node (memI (VS.ms v) (atI (VS.ms v) x - (1 : Int)))) : Int)), T.v (Value.int IntKind.u8 (0 : Int))]) [] fun x => none)) (Q (T.tup [T.v (Value.int IntKind.u8 (↑(Mem.node (memI (VS.ms v) (atI (VS.ms v) x - (1 : Int)))) : Int)), T.v (Value.int IntKind.u8 (0 : Int))]) [] fun x => none)) (bsplit (decide (atI (VS.ms v) x ≥ (0 : Int))) (b = b ∧ bsplit (decide (IntKind.wrap IntKind.i64 (atI (VS.ms v) x + (1 : Int)) < (↑(List.length (mems (VS.ms v))) : Int))) (b = b ∧ (0 : Int) ≤ IntKind.wrap IntKind.i64 (atI (VS.ms v) x + (1 : Int)) ∧ (mems (VS.ms v))[Int.toNat (IntKind.wrap IntKind.i64 (atI (VS.ms v) x + (1 : Int)))]? = some (T.agg [T.v (Value.int IntKind.u8 (↑(Mem.node (memI (VS.ms v) (atI (VS.ms v) x + (1 : Int)))) : Int)), T.v (Value.int IntKind.u8 (↑(Mem.life (memI (VS.ms v) (atI (VS.ms v) x + (1 : Int)))) : Int)), T.v (Value.bool (Mem.ready (memI (VS.ms v) (atI (VS.ms v) x + (1 : Int)))))]) ∧ Q (T.tup [T.v (Value.int IntKind.u8 (0 : Int)), T.v (Value.int IntKind.u8 (↑(Mem.node (memI (VS.ms v) (atI (VS.ms v) x + (1 : Int)))) : Int))]) [] fun x => none) (Q (T.tup [T.v (Value.int IntKind.u8 (0 : Int)), T.v (Value.int IntKind.u8 (0 : Int))]) [] fun x => none)) (Q (T.tup [T.v (Value.int IntKind.u8 (0 : Int)), T.v (Value.int IntKind.u8 (0 : Int))]) [] fun x => none))) (by kernel_rfl) ?_
 have ha := atI_lt v.ms x
 have w1 : 0 < atI v.ms x → IntKind.wrap .i64 (atI v.ms x - 1) = atI v.ms x - 1 := fun h => wrap_i64 (by omega) (by have := hl; rw [lim] at this; omega)
 have w2 : IntKind.wrap .i64 (atI v.ms x + 1) = atI v.ms x + 1 := wrap_i64 (by omega) (by have := hl; rw [lim] at this; omega)
 rw [w2]
 repeat' (first | exact rfl | exact Nat.le_of_ble_eq_true rfl | refine And.intro ?_ ?_ | intro _ | refine bsplit_mk (fun _ => ?_) (fun _ => ?_))
 all_goals try simp only [decide_eq_true_eq, decide_eq_false_iff_not, mems_len, ge_iff_le, gt_iff_lt] at *
 all_goals first
  | exact at_any v x hl _ (fun r h => told_post h)
  | (rw [w1 (by omega)]; exact mems_get (by omega) (by omega))
  | exact mems_get (by omega) (by omega)
  | exact hQ _ (by simp only [aheadV, behindV]; (repeat' split) <;> first | rfl | (exfalso; omega))
  | (rw [w1 (by omega)]; omega)
  | omega
  | trace_state
end X5
end Go.Proofs.Ytafcbipmmjegcaa.Vm
