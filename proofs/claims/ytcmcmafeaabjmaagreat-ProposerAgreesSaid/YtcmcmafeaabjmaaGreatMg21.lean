/- Texts of this claim: PK, OctPure, Oct. -/
import Derived.Test.YtcmcmafeaabjmaaGreatMg20
import Derived.Test.YtcmcmafeaabjmaaGreatMg1
import Derived.Test.YtcmcmafeaabjmaaGreatProg
namespace Go.Proofs.YtcmcmafeaabjmaaGreat.Vm
open Go Go.RowKit
set_option maxRecDepth 100000
namespace X12
structure PP where
  x : P0
  f : Int → Option Ent
  l : List (Ent × Int)
inductive PM where
  | idle (ms : Int)
  | act (mb : Nat) (x : P0) (f : Int → Option Ent) (es : Array MapEntry) (ck : Nat) (l : List Pr) (hd : Value)
def PM.c0 : PM → List T
  | .idle ms => pC ⟨ms, 0, 0, 0, 0, 0, 0⟩ nilM nilL
  | .act mb x _ _ _ l hd => pC x (.mp 1 mb) (.slx 1 2 (ptrs l) hd)
def PM.obs0 (b : Nat) (s : PM) : Nat × Ob := (b, .cells s.c0)
def PM.ob1 : PM → Nat × Ob
  | .idle _ => (0, .gone)
  | .act mb _ f es ck _ _ => (mb, .map .u32 (entT f) es ck)
def PM.ob2 : PM → Nat × Ob
  | .idle _ => (0, .gone)
  | .act _ _ _ _ _ l hd => room l hd
def PM.obs (b : Nat) (s : PM) : Obs := [s.obs0 b, s.ob1, s.ob2]
def PM.plain : PM → PP
  | .idle ms => ⟨⟨ms, 0, 0, 0, 0, 0, 0⟩, fun _ => none, []⟩
  | .act _ x f _ _ l _ => ⟨x, f, l.map fun q => (q.x, q.m)⟩
structure PM.Ok (s : PM) (gl : Glb) : Prop where
  own : match s with | .idle _ => True | .act _ _ _ _ _ l _ => Own l gl
  ph : match s with | .idle _ => True | .act _ x _ _ _ l _ => x.ph = 1 ∧ l = [] ∨ x.ph = 2
structure PP.Ok (p : PP) : Prop where
  ms : 1 ≤ p.x.ms ∧ p.x.ms ≤ 5
  fr : IsU32 p.x.fr
  nx : IsU32 p.x.nx
  pm : Mask p.x.pm
  win : p.x.ph = 1 → Win p.x.fr p.f
  mask : ∀ q ∈ p.l, Mask q.2
  len : p.l.length ≤ 16
def topOf (fr : Int) (f : Int → Option Ent) : Nat → Int
  | 0 => fr
  | k + 1 => if (f (fr + k)).isSome then fr + k + 1 else topOf fr f k
theorem topOf_eq {fr e : Int} {f : Int → Option Ent} (ht : Top fr f e) (_ : Win fr f) : ∀ k : Nat, k ≤ 16 → e ≤ fr + k → topOf fr f k = e := by
  intro k
  induction k with
  | zero => intro _ h; have := ht.1; simp [topOf]; omega
  | succ k ih =>
    intro hk h
    unfold topOf
    split
    · rename_i h1
      have := ht.2.1 _ h1
      push_cast at h
      omega
    · rename_i h1
      refine ih (by omega) ?_
      rcases ht.2.2 with h2 | h2
      · omega
      · have h3 : e - 1 ≠ fr + k := fun h4 => h1 (h4 ▸ h2)
        push_cast at h
        omega
theorem Top.le {fr e : Int} {f : Int → Option Ent} (ht : Top fr f e) (hw : Win fr f) : e ≤ fr + 16 := by
  rcases ht.2.2 with h | h
  · omega
  · have := (hw _ h).2.2; omega
theorem foldl_win {fr : Int} : ∀ {f : Int → Option Ent} (_ : Win fr f) (el : List Ent) (_ : ∀ e ∈ el, IsU32 e.s), Win fr (el.foldl (noteB fr) f)
  | _, h, [], _ => h
  | _, h, e :: el, he => foldl_win (noteB_win h (he e (by simp))) el fun e' h' => he e' (by simp [h'])
def pStart (p : PP) (n y fr : Int) : PP := ⟨⟨p.x.ms, 1, n, y, fr, fr, 0⟩, fun _ => none, []⟩
def pPromise (p : PP) (i n y : Int) (el : List Ent) : PP × Bool :=
  if p.x.ph = 1 ∧ n = p.x.n ∧ y = p.x.b ∧ isMas p.x.ms i = true ∧ hasM p.x.pm i = false then
    if 2 * cntM (withM p.x.pm i) > p.x.ms then
      (⟨{ p.x with pm := withM p.x.pm i, ph := 2, nx := if topOf p.x.fr (el.foldl (noteB p.x.fr) p.f) 16 < 4294967295 then topOf p.x.fr (el.foldl (noteB p.x.fr) p.f) 16 else 4294967295 }, fun _ => none,
        (mkEnts p.x.n p.x.b (el.foldl (noteB p.x.fr) p.f) p.x.fr (topOf p.x.fr (el.foldl (noteB p.x.fr) p.f) 16 - p.x.fr).toNat).map fun e => (e, 0)⟩, true)
    else (⟨{ p.x with pm := withM p.x.pm i }, el.foldl (noteB p.x.fr) p.f, p.l⟩, false)
  else (p, false)
def pPropose (p : PP) (c : Cmd) : PP × Int × Bool :=
  if p.x.ph = 2 ∧ p.l.length < 16 ∧ p.x.nx ≠ 4294967295 then (⟨{ p.x with nx := p.x.nx + 1 }, p.f, p.l ++ [(⟨p.x.nx, p.x.n, p.x.b, c⟩, 0)]⟩, p.x.nx, true) else (p, 0, false)
def accP (ms s i : Int) : List (Ent × Int) → List (Ent × Int) × Option Cmd
  | [] => ([], none)
  | q :: r => if q.1.s = s then
      (if 2 * cntM (withM q.2 i) > ms then ((q.1, withM q.2 i) :: r, some q.1.c) else ((q.1, withM q.2 i) :: (accP ms s i r).1, (accP ms s i r).2))
    else (q :: (accP ms s i r).1, (accP ms s i r).2)
def pAccepted (p : PP) (i n y s : Int) : PP × Cmd × Bool :=
  if p.x.ph = 2 ∧ n = p.x.n ∧ y = p.x.b ∧ isMas p.x.ms i = true then
    match accP p.x.ms s i p.l with
    | (l, some c) => (⟨p.x, p.f, l.filter fun q => !(q.1.s == s)⟩, c, true)
    | (l, none) => (⟨p.x, p.f, l⟩, c0, false)
  else (p, c0, false)
theorem accP_map (ms s i : Int) : ∀ l : List Pr, accP ms s i (l.map fun q => (q.x, q.m)) = ((accL ms s i l).1.map (fun q => (q.x, q.m)), (accL ms s i l).2)
  | [] => rfl
  | q :: r => by
    have ih := accP_map ms s i r
    simp only [List.map_cons, accP, accL]
    split
    · split
      · rfl
      · rw [ih]; rfl
    · rw [ih]; rfl
theorem Imp.gone_more {ts : List T} {ob : Obs} {gl : Glb} : Imp ts ob gl ts (ob ++ [(0, .gone)]) gl :=
  ⟨fun _ _ h => h, fun _ _ h => h.more (by simp [ObRel]) (by simp [obBlk]), fun b h => by
    rcases h with ⟨i, x, h1, h2⟩ | h1
    · rw [List.getElem?_append] at h1
      split at h1
      · exact .inl ⟨i, x, h1, h2⟩
      · rw [List.getElem?_singleton] at h1
        split at h1
        · injection h1 with h1; subst h1; simp [obBlk] at h2
        · cases h1
    · exact .inr h1⟩
theorem rel_nil_sl {M : Pm} {k : Nat} {v : Value} (h : Rel M (.v nilS) v) : Rel M (.sl k []) v := by
  simp only [Rel] at h ⊢
  exact ⟨none, 0, h, ⟨Nat.le_refl _, by omega, fun _ => ⟨rfl, rfl⟩, fun a e => by cases e⟩, by simp [El], by simp⟩
theorem Imp.nil_sl {ts : List T} {ob : Obs} {gl : Glb} (k j : Nat) (hj : ts[j]? = some (.v nilS)) : Imp ts ob gl (ts.set j (.sl k [])) ob gl := Imp.slotR hj fun _ _ h => rel_nil_sl h
theorem start_raw (b : Nat) (x : P0) (bm sl : T) (o1 o2 : Nat × Ob) (n y fr : Int) (gl : Glb) (Q : T → Obs → Glb → Prop) (hQ : ∀ mb, Q (.tup []) [(b, .cells (pC ⟨x.ms, 1, n, y, fr, fr, 0⟩ (.mp 1 mb) nilL)), (mb, .map .u32 (fun _ => none) #[] 0)] gl) : TCalls Tryz.prog 11 [.ptr 0 b 0, .agg [u32 n, u8 y], u32 fr] [(b, .cells (pC x bm sl)), o1, o2] gl Q := by
  refine TCalls.of Tryz.func11 rfl (CanCall.of Tryz.func11 rfl (by decide)) [0, 4] fun Γ => ?_
  refine run_sound (⟨fun  | _, _ => .no, [], fun | 2 => some ⟨[0, 3], [11], .take true [0,1,2,3,4,5,6,7] (.one 8 (.take true [9,10] (.one 11 .done)))⟩ | _ => none⟩) 400 (B := ∀ (b_1 : Nat), b = b ∧ b_1 = b_1 ∧ ∀ (b_2 : Nat), ((9 : Nat) = nat_lit 9 ∧ List.all [T.v (Value.int IntKind.i64 (P0.ms x)), T.v (Value.int IntKind.i64 (1 : Int)), T.v (Value.int IntKind.u32 n), T.v (Value.int IntKind.u8 y), T.v (Value.int IntKind.u32 fr), T.v (Value.int IntKind.u32 fr), T.v (Value.int IntKind.u64 (0 : Int)), T.mp (4 : Nat) b_2, T.v (Value.slice none (0 : Nat) (0 : Nat))] T.one = true) ∧ b = b ∧ (0 : Nat) + nat_lit 9 ≤ (9 : Nat) ∧ Q (T.tup []) [(b, Ob.cells [T.v (Value.int IntKind.i64 (P0.ms x)), T.v (Value.int IntKind.i64 (1 : Int)), T.v (Value.int IntKind.u32 n), T.v (Value.int IntKind.u8 y), T.v (Value.int IntKind.u32 fr), T.v (Value.int IntKind.u32 fr), T.v (Value.int IntKind.u64 (0 : Int)), T.mp (1 : Nat) b_2, T.v (Value.slice none (0 : Nat) (0 : Nat))]), (b_2, Ob.map IntKind.u32 (fun x => none) #[] (0 : Nat))] gl) (by kernel_rfl) ?_
  repeat' (first | exact rfl | exact Nat.le_of_ble_eq_true rfl | refine And.intro ?_ ?_ | intro _ | refine bsplit_mk (fun _ => ?_) (fun _ => ?_))
  exact hQ _
theorem phase_raw (b : Nat) (x : P0) (bm sl : T) (o1 o2 : Nat × Ob) (gl : Glb) (Q : T → Obs → Glb → Prop) (hQ : ∀ r, r = .tup [int x.ph, .agg [u32 x.n, u8 x.b], u32 x.nx] → Q r [(b, .cells (pC x bm sl)), o1, o2] gl) : TCalls Tryz.prog 10 [.ptr 0 b 0] [(b, .cells (pC x bm sl)), o1, o2] gl Q := by
  refine TCalls.of Tryz.func10 rfl (CanCall.of Tryz.func10 rfl (by decide)) [0, 1, 2] fun Γ => ?_
  refine run_sound (⟨fun  | _, _ => .no, [], fun | 3 => some ⟨[0], [], .take true [0,1,2,3,4,5,6,7,8,9,10,11,12] (.one 13 (.take true [14] .done))⟩ | _ => none⟩) 400 (B := ∀ (b_1 : Nat), b = b ∧ b = b ∧ b = b ∧ ((2 : Nat) = nat_lit 2 ∧ List.all [T.v (Value.int IntKind.u32 (P0.n x)), T.v (Value.int IntKind.u8 (P0.b x))] T.one = true) ∧ b_1 = b_1 ∧ (0 : Nat) + nat_lit 2 ≤ (2 : Nat) ∧ b_1 = b_1 ∧ Q (T.tup [T.v (Value.int IntKind.i64 (P0.ph x)), T.agg [T.v (Value.int IntKind.u32 (P0.n x)), T.v (Value.int IntKind.u8 (P0.b x))], T.v (Value.int IntKind.u32 (P0.nx x))]) [(b, Ob.cells [T.v (Value.int IntKind.i64 (P0.ms x)), T.v (Value.int IntKind.i64 (P0.ph x)), T.v (Value.int IntKind.u32 (P0.n x)), T.v (Value.int IntKind.u8 (P0.b x)), T.v (Value.int IntKind.u32 (P0.fr x)), T.v (Value.int IntKind.u32 (P0.nx x)), T.v (Value.int IntKind.u64 (P0.pm x)), bm, sl]), o1, o2] gl) (by kernel_rfl) ?_
  repeat' (first | exact rfl | exact Nat.le_of_ble_eq_true rfl | refine And.intro ?_ ?_ | intro _ | refine bsplit_mk (fun _ => ?_) (fun _ => ?_))
  exact hQ _ rfl
theorem promise_raw (b mb : Nat) (x : P0) (f : Int → Option Ent) (es : Array MapEntry) (ck : Nat) (l : List Pr) (hd : Value) (i n y : Int) (el : List Ent) (gl : Glb) (hx : x.ph ≠ 1) (Q : T → Obs → Glb → Prop)
    (hQ : Q (bool false) (PS b mb x f es ck l hd) gl) : TCalls Tryz.prog 14 [.ptr 0 b 0, u8 i, .agg [u32 n, u8 y], .sl 8 (ents el)] (PS b mb x f es ck l hd) gl Q := by
  refine TCalls.of Tryz.func14 rfl (CanCall.of Tryz.func14 rfl (by decide)) [0, 1, 2] fun Γ => ?_
  refine run_sound (⟨fun | 1, 20 => told (bool (isMas x.ms i)) [0] [(b, .cells (pC x (.mp 1 mb) (.slx 1 2 (ptrs l) hd)))] | 1, 29 => told (bool (hasM x.pm i)) [] [] | 3, 6 => told (u64 (withM x.pm i)) [] [] | _, _ => .no, [((2, 5), ([0, 51, 52, 53], 4))], fun | 1 => some ⟨[0, 3], [20, 29], .take true [0,1,2,3,4,5,6,7,8,9,10,11,12,13,14,15,16,17,18,19] (.one 20 (.take false [21,22,23,24,25,26,28] (.one 27 (.one 29 (.take false [30] .done)))))⟩ | _ => none⟩) 400 (B := ∀ (b_1 : Nat), b = b ∧ bsplit (P0.ph x != (1 : Int)) (Q (T.v (Value.bool false)) [(b, Ob.cells [T.v (Value.int IntKind.i64 (P0.ms x)), T.v (Value.int IntKind.i64 (P0.ph x)), T.v (Value.int IntKind.u32 (P0.n x)), T.v (Value.int IntKind.u8 (P0.b x)), T.v (Value.int IntKind.u32 (P0.fr x)), T.v (Value.int IntKind.u32 (P0.nx x)), T.v (Value.int IntKind.u64 (P0.pm x)), T.mp (1 : Nat) mb, T.slx (1 : Nat) (2 : Nat) (ptrs l) hd]), (mb, Ob.map IntKind.u32 (entT f) es ck), ((0 : Nat), Ob.room (1 : Nat) (106 : Nat) (List.length (ptrs l)) hd)] gl) (b_1 = b_1 ∧ b = b ∧ bsplit (!(n == P0.n x && (y == P0.b x && true) && true)) (Q (T.v (Value.bool false)) [(b, Ob.cells [T.v (Value.int IntKind.i64 (P0.ms x)), T.v (Value.int IntKind.i64 (P0.ph x)), T.v (Value.int IntKind.u32 (P0.n x)), T.v (Value.int IntKind.u8 (P0.b x)), T.v (Value.int IntKind.u32 (P0.fr x)), T.v (Value.int IntKind.u32 (P0.nx x)), T.v (Value.int IntKind.u64 (P0.pm x)), T.mp (1 : Nat) mb, T.slx (1 : Nat) (2 : Nat) (ptrs l) hd]), (mb, Ob.map IntKind.u32 (entT f) es ck), ((0 : Nat), Ob.room (1 : Nat) (106 : Nat) (List.length (ptrs l)) hd)] gl) (TCalls Tryz.prog (34 : Nat) [T.ptr (0 : Nat) b (0 : Nat), T.v (Value.int IntKind.u8 i)] [(b, Ob.cells [T.v (Value.int IntKind.i64 (P0.ms x)), T.v (Value.int IntKind.i64 (P0.ph x)), T.v (Value.int IntKind.u32 (P0.n x)), T.v (Value.int IntKind.u8 (P0.b x)), T.v (Value.int IntKind.u32 (P0.fr x)), T.v (Value.int IntKind.u32 (P0.nx x)), T.v (Value.int IntKind.u64 (P0.pm x)), T.mp (1 : Nat) mb, T.slx (1 : Nat) (2 : Nat) (ptrs l) hd])] (fun x => none) (callPost (Hint.call false Unit (fun x => True) [(0 : Nat)] false (fun x_1 => bool (isMas (P0.ms x) i)) (fun x_1 => [(b, Ob.cells (pC x (T.mp (1 : Nat) mb) (T.slx (1 : Nat) (2 : Nat) (ptrs l) hd)))]) fun x => none_)) ∧ ∀ (a : Unit), True → bsplit (!isMas (P0.ms x) i) (Q (T.v (Value.bool false)) [(b, Ob.cells [T.v (Value.int IntKind.i64 (P0.ms x)), T.v (Value.int IntKind.i64 (P0.ph x)), T.v (Value.int IntKind.u32 (P0.n x)), T.v (Value.int IntKind.u8 (P0.b x)), T.v (Value.int IntKind.u32 (P0.fr x)), T.v (Value.int IntKind.u32 (P0.nx x)), T.v (Value.int IntKind.u64 (P0.pm x)), T.mp (1 : Nat) mb, T.slx (1 : Nat) (2 : Nat) (ptrs l) hd]), (mb, Ob.map IntKind.u32 (entT f) es ck), ((0 : Nat), Ob.room (1 : Nat) (106 : Nat) (List.length (ptrs l)) hd)] gl) (b = b ∧ TCalls Tryz.prog (35 : Nat) [T.v (Value.int IntKind.u64 (P0.pm x)), T.v (Value.int IntKind.u8 i)] [] (fun x => none) (callPost (Hint.call false Unit (fun x => True) [] false (fun x_2 => bool (hasM (P0.pm x) i)) (fun x => []) fun x => none_)) ∧ ∀ (a : Unit), True → bsplit (hasM (P0.pm x) i) (Q (T.v (Value.bool false)) [(b, Ob.cells [T.v (Value.int IntKind.i64 (P0.ms x)), T.v (Value.int IntKind.i64 (P0.ph x)), T.v (Value.int IntKind.u32 (P0.n x)), T.v (Value.int IntKind.u8 (P0.b x)), T.v (Value.int IntKind.u32 (P0.fr x)), T.v (Value.int IntKind.u32 (P0.nx x)), T.v (Value.int IntKind.u64 (P0.pm x)), T.mp (1 : Nat) mb, T.slx (1 : Nat) (2 : Nat) (ptrs l) hd]), (mb, Ob.map IntKind.u32 (entT f) es ck), ((0 : Nat), Ob.room (1 : Nat) (106 : Nat) (List.length (ptrs l)) hd)] gl) (b = b ∧ TCalls Tryz.prog (36 : Nat) [T.v (Value.int IntKind.u64 (P0.pm x)), T.v (Value.int IntKind.u8 i)] [] (fun x => none) (callPost (Hint.call false Unit (fun x => True) [] false (fun x_3 => u64 (withM (P0.pm x) i)) (fun x => []) fun x => none_)) ∧ ∀ (a : Unit), True → ((1 : Nat) = nat_lit 1 ∧ List.all (List.map T.v (Array.toList #[Value.int IntKind.u64 (withM (P0.pm x) i)])) T.one = true) ∧ b = b ∧ (6 : Nat) + nat_lit 1 ≤ (9 : Nat) ∧ TWk Tryz.prog Γ (fin Tryz.prog Tryz.f14 [(0 : Nat), (1 : Nat), (2 : Nat)] Q) [It.code (sub (bd Tryz.f14) [(1 : Nat), (1 : Nat), (1 : Nat), (0 : Nat), (1 : Nat), (0 : Nat)]), It.blk (0 : Nat), It.code (sub (bd Tryz.f14) [(1 : Nat), (1 : Nat), (1 : Nat), (1 : Nat)])] { fr := [T.ptr (0 : Nat) b (0 : Nat), T.und, T.und, T.und, T.und, T.und, T.und, T.und, T.und, T.und, T.und, T.und, T.und, T.und, T.und, T.und, T.und, T.und, T.und, T.und, T.und, T.und, T.und, T.und, T.und, T.und, T.und, T.und, T.und, T.und, T.und, T.und, T.und, T.und, T.und, T.und, T.und, T.und, T.und, T.und, T.und, T.und, T.und, T.und, T.und, T.und, T.und, T.und, T.und, T.und, T.und, T.sl (8 : Nat) (ents el), T.v (Value.int IntKind.i64 (↑(List.length (ents el)) : Int)), T.v (Value.int IntKind.i64 (0 : Int)), T.und, T.und, T.und, T.und, T.und, T.und, T.und, T.und, T.und, T.und, T.und, T.und, T.und, T.und, T.und, T.und], ob := [(b, Ob.cells [T.v (Value.int IntKind.i64 (P0.ms x)), T.v (Value.int IntKind.i64 (P0.ph x)), T.v (Value.int IntKind.u32 (P0.n x)), T.v (Value.int IntKind.u8 (P0.b x)), T.v (Value.int IntKind.u32 (P0.fr x)), T.v (Value.int IntKind.u32 (P0.nx x)), T.v (Value.int IntKind.u64 (withM (P0.pm x) i)), T.mp (1 : Nat) mb, T.slx (1 : Nat) (2 : Nat) (ptrs l) hd]), (mb, Ob.map IntKind.u32 (entT f) es ck), ((0 : Nat), Ob.room (1 : Nat) (106 : Nat) (List.length (ptrs l)) hd), (b_1, Ob.cells [T.v (Value.int IntKind.u32 n), T.v (Value.int IntKind.u8 y)])], gl := gl }))))) (by kernel_rfl) ?_
  exact fun b1 => ⟨rfl, bsplit_mk (fun h => hQ) (fun h1 => by simp at h1; exact absurd h1 hx)⟩
section
variable (b : Nat) (s : PM) (gl : Glb) (Q : T → Obs → Glb → Prop)
theorem new_u (ms : Int) (h : 1 ≤ ms ∧ ms ≤ 5) (hQ : ∀ b, Q (.tup [.ptr 0 b 0, .v (.int .i64 0)]) ((PM.idle ms).obs b) none_) : TCalls Tryz.prog 9 [int ms] [] none_ Q :=
  (new_any ms h (fun r ob gl => ∃ b, r = .tup [.ptr 0 b 0, .v (.int .i64 0)] ∧ ob = [(b, .cells (pC ⟨ms, 0, 0, 0, 0, 0, 0⟩ nilM nilL))] ∧ gl = none_) (fun b => ⟨b, rfl, rfl, rfl⟩)).post fun r ob gl ⟨b, h1, h2, h3⟩ => by
    subst h1 h2 h3
    exact ⟨_, _, _, Imp.gone_more.trans Imp.gone_more, hQ b⟩
theorem start_u (n y fr : Int) (hQ : ∀ mb, Q (.tup []) ((PM.act mb ⟨s.plain.x.ms, 1, n, y, fr, fr, 0⟩ (fun _ => none) #[] 0 [] nilS).obs b) gl) : TCalls Tryz.prog 11 [.ptr 0 b 0, .agg [u32 n, u8 y], u32 fr] (s.obs b) gl Q := by
  have key : ∀ (x : P0) (bm sl : T), x.ms = s.plain.x.ms → s.obs0 b = (b, .cells (pC x bm sl)) → TCalls Tryz.prog 11 [.ptr 0 b 0, .agg [u32 n, u8 y], u32 fr] (s.obs b) gl Q := fun x bm sl hx he => by
    unfold PM.obs
    rw [he]
    refine (start_raw b x bm sl s.ob1 s.ob2 n y fr gl (fun r ob gl' => ∃ mb, r = .tup [] ∧ ob = [(b, .cells (pC ⟨x.ms, 1, n, y, fr, fr, 0⟩ (.mp 1 mb) nilL)), (mb, .map .u32 (fun _ => none) #[] 0)] ∧ gl' = gl) (fun mb => ⟨mb, rfl, rfl, rfl⟩)).post fun r ob gl' ⟨mb, h1, h2, h3⟩ => ?_
    subst h1 h2 h3
    have h := hQ mb
    rw [← hx] at h
    exact ⟨_, _, _, (Imp.room 1 106).trans (Imp.cell (i := 0) (b := b) (cs := pC ⟨x.ms, 1, n, y, fr, fr, 0⟩ (.mp 1 mb) nilL) (j := 8) 1 2 rfl rfl), h⟩
  cases s with
  | idle ms => exact key _ _ _ rfl rfl
  | act mb x f es ck l hd => exact key _ _ _ rfl rfl
theorem phase_u (hQ : ∀ r, r = .tup [int s.plain.x.ph, .agg [u32 s.plain.x.n, u8 s.plain.x.b], u32 s.plain.x.nx] → Q r (s.obs b) gl) : TCalls Tryz.prog 10 [.ptr 0 b 0] (s.obs b) gl Q := by
  cases s with
  | idle ms => exact phase_raw b _ _ _ _ _ gl Q hQ
  | act mb x f es ck l hd => exact phase_raw b _ _ _ _ _ gl Q hQ
def Left (p : PP) (s' : PM) (gl' : Glb) : Prop := s'.plain = p ∧ s'.Ok gl'
theorem idle_more {P : Program} {f : FuncId} {ts : List T} {ms : Int} (h : TCalls P f ts (idle b ms) gl (fun r ob gl' => ob = idle b ms ∧ gl' = gl ∧ Q r ((PM.idle ms).obs b) gl)) : TCalls P f ts ((PM.idle ms).obs b) gl Q :=
  (h.pre (Imp.take (ob := (PM.idle ms).obs b) 1)).post fun r ob gl' ⟨h1, h2, h3⟩ => by
    subst h1 h2
    exact ⟨_, _, _, Imp.gone_more.trans Imp.gone_more, h3⟩
theorem promise_u (i n y : Int) (el : List Ent) (ho : s.Ok gl) (hp : s.plain.Ok) (hi : 0 ≤ i ∧ i < 256) (hel : ∀ e ∈ el, IsU32 e.s) (hlen : el.length ≤ 1000)
    (hQ : ∀ s' gl', Left (pPromise s.plain i n y el).1 s' gl' → Q (bool (pPromise s.plain i n y el).2) (s'.obs b) gl') : TCalls Tryz.prog 14 [.ptr 0 b 0, u8 i, .agg [u32 n, u8 y], .sl 8 (ents el)] (s.obs b) gl Q := by
  cases s with
  | idle ms => exact idle_more b gl Q (promise_idle b ms i n y _ gl _ ⟨rfl, rfl, hQ (.idle ms) gl ⟨by simp [pPromise, PM.plain], ho⟩⟩)
  | act mb x f es ck l hd =>
    have no : ¬ (x.ph = 1 ∧ n = x.n ∧ y = x.b ∧ isMas x.ms i = true ∧ hasM x.pm i = false) → Q (bool false) (PS b mb x f es ck l hd) gl := fun hn => by
      have := hQ (.act mb x f es ck l hd) gl
      rw [pPromise, PM.plain, if_neg hn] at this
      exact this ⟨rfl, ho⟩
    rcases ho.ph with ⟨h1, h2⟩ | h1
    · subst h2
      refine promise_any b mb x f es ck hd i n y el gl hp.fr hp.pm hp.ms.2 hi (hp.win h1) hel hlen Q (fun h => no ?_) (fun g1 g2 g3 g4 g5 g6 es' ck' => ?_) (fun g1 g2 g3 g4 g5 g6 e d hd' gl' es' ck' k1 k2 k3 k4 => ?_)
      · rintro ⟨g1, g2, g3, g4, g5⟩
        rcases h with h | h | h | h | h
        · exact h g1
        · exact h g2
        · exact h g3
        · rw [g4] at h; cases h
        · rw [g5] at h; cases h
      · have := hQ (.act mb { x with pm := withM x.pm i } (el.foldl (noteB x.fr) f) es' ck' [] hd) gl
        rw [pPromise, PM.plain, if_pos ⟨g1, g2, g3, g4, g5⟩, if_neg g6] at this
        exact this ⟨rfl, ho.own, .inl ⟨h1, rfl⟩⟩
      · have hw : Win x.fr (el.foldl (noteB x.fr) f) := by
          have hw0 : Win x.fr f := hp.win h1
          exact foldl_win hw0 el hel
        have ht := topOf_eq k1 hw 16 (Nat.le_refl _) (by have := k1.le hw; simpa using this)
        have := hQ (.act mb { x with pm := withM x.pm i, ph := 2, nx := if e < 4294967295 then e else 4294967295 } (fun _ => none) es' ck' d hd') gl'
        rw [pPromise, PM.plain, if_pos ⟨g1, g2, g3, g4, g5⟩, if_pos g6] at this
        refine this ⟨?_, k2, .inr rfl⟩
        simp only [PM.plain]
        rw [ht, ← k3, List.map_map]
        congr 1
        exact List.map_congr_left fun q hq => by simp [k4 q hq]
    · exact promise_raw b mb x f es ck l hd i n y el gl (by omega) Q (no (by omega))
theorem propose_u (c : Cmd) (ho : s.Ok gl) (hp : s.plain.Ok) (hQ : ∀ s' gl', Left (pPropose s.plain c).1 s' gl' → Q (.tup [u32 (pPropose s.plain c).2.1, bool (pPropose s.plain c).2.2]) (s'.obs b) gl') : TCalls Tryz.prog 16 [.ptr 0 b 0, .agg (cmdC c)] (s.obs b) gl Q := by
  cases s with
  | idle ms => exact idle_more b gl Q (propose_idle b ms c gl _ ⟨rfl, rfl, hQ (.idle ms) gl ⟨by simp [pPropose, PM.plain], ho⟩⟩)
  | act mb x f es ck l hd =>
    have hl : l.length ≤ 16 := by have := hp.len; simpa [PM.plain] using this
    refine propose_any b mb x f es ck l hd c gl (by omega) hp.nx Q (fun h => ?_) (fun g1 g2 g3 nb hd' hn => ?_)
    · have hn : ¬ (x.ph = 2 ∧ (l.map fun q => (q.x, q.m)).length < 16 ∧ x.nx ≠ 4294967295) := by
        rw [List.length_map]
        rintro ⟨h1, h2, h3⟩
        rcases h with h | h | h
        · exact h h1
        · omega
        · exact h3 h
      have := hQ (.act mb x f es ck l hd) gl
      rw [pPropose, PM.plain, if_neg hn] at this
      exact this ⟨rfl, ho⟩
    · have hy : (x.ph = 2 ∧ (l.map fun q => (q.x, q.m)).length < 16 ∧ x.nx ≠ 4294967295) := ⟨g1, by rw [List.length_map]; exact g2, g3⟩
      have := hQ (.act mb { x with nx := x.nx + 1 } f es ck (l ++ [⟨nb, ⟨x.nx, x.n, x.b, c⟩, 0⟩]) hd') (setGl gl nb (prC ⟨x.nx, x.n, x.b, c⟩ 0))
      rw [pPropose, PM.plain, if_pos hy] at this
      exact this ⟨by simp [PM.plain], ho.own.add hn _ _, .inr g1⟩
theorem accepted_u (i n y t : Int) (ho : s.Ok gl) (hp : s.plain.Ok) (hi : 0 ≤ i ∧ i < 256)
    (hQ : ∀ s' gl', Left (pAccepted s.plain i n y t).1 s' gl' → Q (.tup [.agg (cmdC (pAccepted s.plain i n y t).2.1), bool (pAccepted s.plain i n y t).2.2]) (s'.obs b) gl') : TCalls Tryz.prog 19 [.ptr 0 b 0, u8 i, .agg [u32 n, u8 y], u32 t] (s.obs b) gl Q := by
  cases s with
  | idle ms => exact idle_more b gl Q (accepted_idle b ms i n y t gl _ ⟨rfl, rfl, hQ (.idle ms) gl ⟨by simp [pAccepted, PM.plain], ho⟩⟩)
  | act mb x f es ck l hd =>
    have hl : l.length ≤ 16 := by have := hp.len; simpa [PM.plain] using this
    refine accepted_any b mb x f es ck l hd i n y t gl (by omega) hi hp.ms.2 ho.own (fun q hq => hp.mask (q.x, q.m) (List.mem_map_of_mem (f := fun q : Pr => (q.x, q.m)) hq)) Q (fun h => ?_) (fun g1 g2 g3 g4 gl' hd' k1 k2 => ?_) (fun g1 g2 g3 g4 c gl' hd' k1 k2 => ?_)
    · have hn : ¬ (x.ph = 2 ∧ n = x.n ∧ y = x.b ∧ isMas x.ms i = true) := by
        rintro ⟨g1, g2, g3, g4⟩
        rcases h with h | h | h | h
        · exact h g1
        · exact h g2
        · exact h g3
        · rw [g4] at h; cases h
      have := hQ (.act mb x f es ck l hd) gl
      rw [pAccepted, PM.plain, if_neg hn] at this
      exact this ⟨rfl, ho⟩
    · have := hQ (.act mb x f es ck (accL x.ms t i l).1 hd') gl'
      rw [pAccepted, PM.plain, if_pos ⟨g1, g2, g3, g4⟩, accP_map, k1] at this
      exact this ⟨rfl, k2, .inr g1⟩
    · have := hQ (.act mb x f es ck ((accL x.ms t i l).1.filter fun q => !(q.x.s == t)) hd') gl'
      rw [pAccepted, PM.plain, if_pos ⟨g1, g2, g3, g4⟩, accP_map, k1] at this
      refine this ⟨?_, ⟨fun q hq => k2.1 q (List.mem_filter.1 hq |>.1), (k2.2.sublist (List.Sublist.map _ List.filter_sublist))⟩, .inr g1⟩
      simp only [PM.plain, List.filter_map]
      rfl
theorem pending_u (ho : s.Ok gl) (hp : s.plain.Ok) (hQ : ∀ r, r = .sl 8 (ents (s.plain.l.map (·.1))) → Q r (s.obs b) gl) : TCalls Tryz.prog 15 [.ptr 0 b 0] (s.obs b) gl Q := by
  cases s with
  | idle ms =>
    refine idle_more b gl Q ((pending_idle b ms gl (fun r ob gl' => r = nilL ∧ ob = idle b ms ∧ gl' = gl) ⟨rfl, rfl, rfl⟩).post fun r ob gl' ⟨h1, h2, h3⟩ => ?_)
    subst h1 h2 h3
    exact ⟨_, _, _, Imp.nil_sl (ts := [nilL]) 8 0 rfl, rfl, rfl, hQ _ rfl⟩
  | act mb x f es ck l hd =>
    have hl : l.length ≤ 16 := by have := hp.len; simpa [PM.plain] using this
    have e : (PM.act mb x f es ck l hd).plain.l.map (·.1) = l.map (·.x) := by simp [PM.plain]
    rw [e] at hQ
    exact pending_any b mb x f es ck l hd gl (by omega) ho.own Q (hQ _ rfl)
end
theorem mask0 : Mask 0 := ⟨by decide, by decide⟩
theorem topOf_bounds (fr : Int) (f : Int → Option Ent) : ∀ k : Nat, fr ≤ topOf fr f k ∧ topOf fr f k ≤ fr + k
  | 0 => by simp [topOf]
  | k + 1 => by
    have := topOf_bounds fr f k
    unfold topOf
    split
    · omega
    · push_cast; omega
theorem mkEnts_len (n b : Int) (f : Int → Option Ent) : ∀ (k : Nat) (s : Int), (mkEnts n b f s k).length = k
  | 0, _ => rfl
  | k + 1, s => by simp [mkEnts, mkEnts_len n b f k]
theorem pStart_ok {p : PP} (h : p.Ok) {fr : Int} (n y : Int) (hf : IsU32 fr) : (pStart p n y fr).Ok :=
  ⟨h.ms, hf, hf, mask0, fun _ z hz => by simp [pStart] at hz, fun q hq => by simp [pStart] at hq, by simp [pStart]⟩
theorem isMas_mas {ms i : Int} (h : isMas ms i = true) (hm : ms ≤ 5) : Mas i := by
  have : 1 ≤ i ∧ i ≤ ms := by simpa [isMas] using h
  exact ⟨this.1, by omega⟩
theorem pPromise_ok {p : PP} (h : p.Ok) (i n y : Int) {el : List Ent} (he : ∀ e ∈ el, IsU32 e.s) : (pPromise p i n y el).1.Ok := by
  unfold pPromise
  split
  · rename_i g
    obtain ⟨g1, g2, g3, g4, g5⟩ := g
    have hpm := withM_mask h.pm (isMas_mas g4 h.ms.2)
    have hb := topOf_bounds p.x.fr (el.foldl (noteB p.x.fr) p.f) 16
    have hf := h.fr
    split
    · refine ⟨h.ms, h.fr, ?_, hpm, fun g => by simp at g, fun q hq => ?_, ?_⟩
      · unfold IsU32 at *
        dsimp only
        split <;> omega
      · obtain ⟨e, _, rfl⟩ := List.mem_map.1 hq
        exact mask0
      · simp only [List.length_map, mkEnts_len]; omega
    · exact ⟨h.ms, h.fr, h.nx, hpm, fun _ => foldl_win (h.win g1) el he, h.mask, h.len⟩
  · exact h
theorem pPropose_ok {p : PP} (h : p.Ok) (c : Cmd) : (pPropose p c).1.Ok := by
  unfold pPropose
  split
  · rename_i g
    obtain ⟨g1, g2, g3⟩ := g
    have hx := h.nx
    refine ⟨h.ms, h.fr, ?_, h.pm, h.win, fun q hq => ?_, ?_⟩
    · unfold IsU32 at *; dsimp only; omega
    · rcases List.mem_append.1 hq with hq | hq
      · exact h.mask q hq
      · simp at hq; subst hq; exact mask0
    · simp; omega
  · exact h
theorem accP_len (ms s i : Int) : ∀ l : List (Ent × Int), (accP ms s i l).1.length = l.length
  | [] => rfl
  | q :: r => by simp only [accP]; split <;> (try split) <;> simp [accP_len ms s i r]
theorem accP_mask {ms s i : Int} (hi : Mas i) : ∀ l : List (Ent × Int), (∀ q ∈ l, Mask q.2) → ∀ q ∈ (accP ms s i l).1, Mask q.2
  | [], _ => by simp [accP]
  | q :: r, h => by
    have ih := accP_mask (ms := ms) (s := s) hi r (fun q' hq => h q' (by simp [hq]))
    have h1 := withM_mask (h q (by simp)) hi
    have h0 := h q (by simp)
    have h2 : ∀ q' ∈ r, Mask q'.2 := fun q' hq => h q' (by simp [hq])
    simp only [accP]
    split
    · split
      · intro q' hq
        rcases List.mem_cons.1 hq with rfl | hq
        · exact h1
        · exact h2 _ hq
      · intro q' hq
        rcases List.mem_cons.1 hq with rfl | hq
        · exact h1
        · exact ih _ hq
    · intro q' hq
      rcases List.mem_cons.1 hq with rfl | hq
      · exact h0
      · exact ih _ hq
theorem pAccepted_ok {p : PP} (h : p.Ok) (i n y s : Int) : (pAccepted p i n y s).1.Ok := by
  unfold pAccepted
  split
  · rename_i g
    obtain ⟨g1, g2, g3, g4⟩ := g
    have hi := isMas_mas g4 h.ms.2
    have hl := accP_len p.x.ms s i p.l
    have hm := accP_mask (ms := p.x.ms) (s := s) hi p.l h.mask
    have hp := h.len
    split
    · rename_i l c e
      rw [e] at hl hm
      exact ⟨h.ms, h.fr, h.nx, h.pm, h.win, fun q hq => hm q (List.mem_filter.1 hq).1, Nat.le_trans (List.length_filter_le _ _) (by simp at hl; omega)⟩
    · rename_i l e
      rw [e] at hl hm
      exact ⟨h.ms, h.fr, h.nx, h.pm, h.win, hm, by simp at hl; dsimp only; omega⟩
  · exact h
end X12
def pmH (b : Nat) (r : T) (p : X12.PP) : Hint := .call false (X12.PM × Glb) (fun a => X12.Left p a.1 a.2) [0, 1, 2] true (fun _ => r) (fun a => a.1.obs b) (fun a => a.2)
namespace X12
theorem pm_post {b : Nat} {r r' : T} {p' : PP} {s' : PM} {gl' : Glb} (h : Left p' s' gl') (hr : r' = r) : callPost (pmH b r p') r' (s'.obs b) gl' := ⟨(s', gl'), h, hr, rfl, Nat.le_of_ble_eq_true rfl, fun _ => rfl⟩
section
variable {b : Nat} {s : PM} {gl : Glb} {p : PP} (hl : Left p s gl) (hp : p.Ok)
include hl
theorem start_h (n y fr : Int) : TCalls Tryz.prog 11 [.ptr 0 b 0, .agg [u32 n, u8 y], u32 fr] (s.obs b) gl (callPost (pmH b (.tup []) (pStart p n y fr))) := by
  obtain ⟨rfl, ho⟩ := hl
  exact start_u b s gl _ n y fr fun mb => pm_post ⟨by simp [PM.plain, pStart], ⟨⟨by simp, by simp⟩, .inl ⟨rfl, rfl⟩⟩⟩ rfl
include hp
theorem promise_h (i n y : Int) (el : List Ent) (hi : 0 ≤ i ∧ i < 256) (hel : ∀ e ∈ el, IsU32 e.s) (hlen : el.length ≤ 1000) :
    TCalls Tryz.prog 14 [.ptr 0 b 0, u8 i, .agg [u32 n, u8 y], .sl 8 (ents el)] (s.obs b) gl (callPost (pmH b (bool (pPromise p i n y el).2) (pPromise p i n y el).1)) := by
  obtain ⟨rfl, ho⟩ := hl
  exact promise_u b s gl _ i n y el ho hp hi hel hlen fun s' gl' h => pm_post h rfl
theorem promise_n (i n y : Int) (hi : 0 ≤ i ∧ i < 256) :
    TCalls Tryz.prog 14 [.ptr 0 b 0, u8 i, .agg [u32 n, u8 y], .v nilS] (s.obs b) gl (callPost (pmH b (bool (pPromise p i n y []).2) (pPromise p i n y []).1)) :=
  (promise_h hl hp i n y [] hi (by simp) (by simp)).pre (Imp.nil_sl (ts := [.ptr 0 b 0, u8 i, .agg [u32 n, u8 y], .v nilS]) 8 3 rfl)
theorem propose_h (c : Cmd) : TCalls Tryz.prog 16 [.ptr 0 b 0, .agg (cmdC c)] (s.obs b) gl (callPost (pmH b (.tup [u32 (pPropose p c).2.1, bool (pPropose p c).2.2]) (pPropose p c).1)) := by
  obtain ⟨rfl, ho⟩ := hl
  exact propose_u b s gl _ c ho hp fun s' gl' h => pm_post h rfl
theorem accepted_h (i n y t : Int) (hi : 0 ≤ i ∧ i < 256) : TCalls Tryz.prog 19 [.ptr 0 b 0, u8 i, .agg [u32 n, u8 y], u32 t] (s.obs b) gl (callPost (pmH b (.tup [.agg (cmdC (pAccepted p i n y t).2.1), bool (pAccepted p i n y t).2.2]) (pAccepted p i n y t).1)) := by
  obtain ⟨rfl, ho⟩ := hl
  exact accepted_u b s gl _ i n y t ho hp hi fun s' gl' h => pm_post h rfl
theorem pending_h : TCalls Tryz.prog 15 [.ptr 0 b 0] (s.obs b) gl (callPost (pmH b (.sl 8 (ents (p.l.map (·.1)))) p)) := by
  have hl0 := hl
  obtain ⟨rfl, ho⟩ := hl
  exact pending_u b s gl _ ho hp fun r h => pm_post hl0 h
theorem phase_h : TCalls Tryz.prog 10 [.ptr 0 b 0] (s.obs b) gl (callPost (pmH b (.tup [int p.x.ph, .agg [u32 p.x.n, u8 p.x.b], u32 p.x.nx]) p)) := by
  have hl0 := hl
  obtain ⟨rfl, ho⟩ := hl
  exact phase_u b s gl _ fun r h => pm_post hl0 h
theorem promise_e (i n y : Int) (el : List Ent) (hi : 0 ≤ i ∧ i < 256) (hel : ∀ e ∈ el, IsU32 e.s) (hlen : el.length ≤ 1000) {r : Bool} (e : (pPromise p i n y el).2 = r) :
    TCalls Tryz.prog 14 [.ptr 0 b 0, u8 i, .agg [u32 n, u8 y], .sl 8 (ents el)] (s.obs b) gl (callPost (pmH b (bool r) (pPromise p i n y el).1)) := e ▸ promise_h hl hp i n y el hi hel hlen
theorem promise_ne (i n y : Int) (hi : 0 ≤ i ∧ i < 256) {r : Bool} (e : (pPromise p i n y []).2 = r) :
    TCalls Tryz.prog 14 [.ptr 0 b 0, u8 i, .agg [u32 n, u8 y], .v nilS] (s.obs b) gl (callPost (pmH b (bool r) (pPromise p i n y []).1)) := e ▸ promise_n hl hp i n y hi
theorem propose_e (c : Cmd) {r : Int × Bool} (e : (pPropose p c).2 = r) : TCalls Tryz.prog 16 [.ptr 0 b 0, .agg (cmdC c)] (s.obs b) gl (callPost (pmH b (.tup [u32 r.1, bool r.2]) (pPropose p c).1)) := e ▸ propose_h hl hp c
theorem accepted_e (i n y t : Int) (hi : 0 ≤ i ∧ i < 256) {r : Cmd × Bool} (e : (pAccepted p i n y t).2 = r) : TCalls Tryz.prog 19 [.ptr 0 b 0, u8 i, .agg [u32 n, u8 y], u32 t] (s.obs b) gl (callPost (pmH b (.tup [.agg (cmdC r.1), bool r.2]) (pAccepted p i n y t).1)) := e ▸ accepted_h hl hp i n y t hi
theorem pending_e {l : List Ent} (e : p.l.map (·.1) = l) : TCalls Tryz.prog 15 [.ptr 0 b 0] (s.obs b) gl (callPost (pmH b (.sl 8 (ents l)) p)) := e ▸ pending_h hl hp
end
end X12
end Go.Proofs.YtcmcmafeaabjmaaGreat.Vm
namespace Go.Proofs.YtcmcmafeaabjmaaGreat
namespace Oct
def be : Nat → Nat → List UInt8
  | 0, _ => []
  | k + 1, n => be k (n / 256) ++ [UInt8.ofNat n]
theorem length_be : ∀ k n, (be k n).length = k
  | 0, _ => rfl
  | k + 1, n => by simp [be, length_be k]
theorem be_succ : ∀ k n, be (k + 1) n = UInt8.ofNat (n / 256 ^ k) :: be k n
  | 0, n => by simp [be]
  | k + 1, n => by
    have h := be_succ k (n / 256)
    show be (k + 1) (n / 256) ++ [UInt8.ofNat n] = _
    rw [h, Nat.div_div_eq_div_mul, show 256 * 256 ^ k = 256 ^ (k + 1) from by rw [Nat.pow_succ, Nat.mul_comm]]
    rfl
def fill (k n i : Nat) : List UInt8 := List.replicate (k - i) 0 ++ be i n
theorem length_fill (k n i : Nat) (h : i ≤ k) : (fill k n i).length = k := by simp [fill, length_be]; omega
theorem fill_zero (k n : Nat) : fill k n 0 = List.replicate k 0 := by simp [fill, be]
theorem fill_full (k n : Nat) : fill k n k = be k n := by simp [fill]
theorem fill_set (k n i : Nat) (h : i < k) : (fill k n i).set (k - 1 - i) (UInt8.ofNat (n / 256 ^ i)) = fill k n (i + 1) := by
  unfold fill
  rw [be_succ, show k - i = (k - (i + 1)) + 1 from by omega, List.replicate_succ', List.append_assoc]
  rw [List.set_append_right _ _ (by simp; omega)]
  simp [show k - 1 - i - (k - (i + 1)) = 0 from by omega]
theorem u8s_set (l : List UInt8) (j : Nat) (c : UInt8) : (u8s l).setIfInBounds j (.int .u8 (c.toNat : Int)) = u8s (l.set j c) := by
  simp [u8s, List.map_set]
theorem madeCells_u8 (k : Nat) : madeCells #[.int .u8 0] k = u8s (List.replicate k 0) := by
  apply Array.ext
  · simp [size_u8s, madeCells]
  · intro i h1 h2
    have h3 : i < k := by simpa [madeCells] using h1
    simp [u8s, madeCells, Nat.mod_one]
theorem pow_256 (j : Nat) : (2 : Int) ^ (8 * j) = ((256 ^ j : Nat) : Int) := by
  rw [Int.pow_mul, show ((2 : Int) ^ 8) = 256 from rfl]
  exact (Int.natCast_pow 256 j).symm
theorem byteVal (n j : Nat) : ((n : Int) / 2 ^ (8 * j) % 256) = ((UInt8.ofNat (n / 256 ^ j)).toNat : Int) := by
  rw [pow_256]
  have : (UInt8.ofNat (n / 256 ^ j)).toNat = n / 256 ^ j % 256 := UInt8.toNat_ofNat'
  rw [this]
  show (n : Int) / ((256 ^ j : Nat) : Int) % ((256 : Nat) : Int) = _
  rw [← Int.natCast_ediv, ← Int.natCast_emod]
theorem fits_iff (n k : Nat) : (((n : Int) / 2 ^ (8 * k) != 0) = false) ↔ n < 256 ^ k := by
  rw [pow_256]
  have hp : 0 < 256 ^ k := Nat.pow_pos (by omega)
  rw [show ((n : Int) / ((256 ^ k : Nat) : Int)) = ((n / 256 ^ k : Nat) : Int) from (Int.natCast_ediv _ _).symm]
  rw [bne_eq_false_iff_eq, Int.natCast_eq_zero, Nat.div_eq_zero_iff]
  omega
structure Part where
  kind : Int
  size : Int
  n : Nat
  s : ByteArray
def Part.cells (p : Part) : List Value := [.int .i64 p.kind, .int .i64 p.size, .int .u64 p.n, .string p.s]
def Part.val (p : Part) : Value := .agg #[.int .i64 p.kind, .int .i64 p.size, .int .u64 p.n, .string p.s]
def numRes (n : Nat) (size : Int) : List UInt8 × Int := if 1 ≤ size ∧ size ≤ 8 ∧ n < 256 ^ size.toNat then (be size.toNat n, 0) else ([], 9)
def Part.bytes (p : Part) : List UInt8 × Int :=
  if p.kind = 1 then numRes p.n p.size
  else if p.kind = 2 then (if 255 < p.s.size then ([], 3) else (UInt8.ofNat p.s.size :: p.s.data.toList, 0))
  else if p.kind = 3 then (p.s.data.toList, 0)
  else ([], 1)
def joinRes : List Part → List UInt8 → List UInt8 × Int
  | [], acc => (acc, 0)
  | p :: r, acc => if p.bytes.2 ≠ 0 then ([], p.bytes.2) else joinRes r (acc ++ p.bytes.1)
def room (ps : List Part) : Nat := (ps.map fun p => p.s.size + 9).sum
theorem bytes_le (p : Part) : p.bytes.1.length ≤ p.s.size + 9 := by
  have hs : p.s.data.toList.length = p.s.size := by rw [Array.length_toList]; rfl
  unfold Part.bytes
  split
  · unfold numRes
    split
    · rw [length_be]; omega
    · simp
  · split
    · split
      · simp
      · rw [List.length_cons, hs]; omega
    · split
      · rw [hs]; omega
      · simp
theorem room_take (ps : List Part) (k : Nat) (h : k < ps.length) : room (ps.take k) + (ps[k].s.size + 9) ≤ room ps := by
  induction ps generalizing k with
  | nil => simp at h
  | cons p r ih =>
    cases k with
    | zero => simp [room]
    | succ k =>
      have := ih k (by simpa using h)
      simp only [room, List.take_succ_cons, List.map_cons, List.sum_cons, List.getElem_cons_succ] at this ⊢
      omega
theorem room_succ (ps : List Part) (k : Nat) (h : k < ps.length) : room (ps.take (k + 1)) = room (ps.take k) + (ps[k].s.size + 9) := by
  rw [List.take_succ_eq_append_getElem h]
  simp only [room, List.map_append, List.sum_append, List.map_cons, List.map_nil, List.sum_cons, List.sum_nil]
  omega
end Oct
end Go.Proofs.YtcmcmafeaabjmaaGreat
namespace Go.Proofs.YtcmcmafeaabjmaaGreat
open Go.RowKit
namespace Oct
theorem info_u8 : (Tryz.prog.info? 5).map (fun i => (i.zero, i.size, i.bytes)) = some (some (.int .u8 0), 1, 1) := by kernel_rfl
set_option maxHeartbeats 400000 in
theorem number_size (n size : Int) (w : World) (h : size < 1 ∨ size > 8) :
    Calls Tryz.prog 84 #[.int .u64 n, .int .i64 size] w fun e w' => e = .returned (.tuple #[.string ⟨#[]⟩, .int .i64 9]) ∧ Below w.heap.size w w' := by
  rcases h with h | h
  · go_enter Tryz.func84, Tryz.ntmps84
    go_wp2
    go_ret2
    exact ⟨rfl, Below.refl _ _⟩
  · have h1 : ¬ size < 1 := by omega
    go_enter Tryz.func84, Tryz.ntmps84
    go_wp2
    go_ret2
    exact ⟨rfl, Below.refl _ _⟩
set_option maxRecDepth 100000 in
set_option maxHeartbeats 400000 in
theorem number_great (n : Int) (k : Nat) (w : World) (h1 : 1 ≤ k) (h7 : k ≤ 7) (hn : (n / 2 ^ (8 * k) != 0) = true) :
    Calls Tryz.prog 84 #[.int .u64 n, .int .i64 k] w fun e w' => e = .returned (.tuple #[.string ⟨#[]⟩, .int .i64 9]) ∧ Below w.heap.size w w' := by
  go_enter Tryz.func84, Tryz.ntmps84
  go_wp2
  go_ret2
  exact ⟨rfl, Below.refl _ _⟩
set_option maxRecDepth 100000 in
set_option maxHeartbeats 400000 in
theorem number_fits (n k : Nat) (w : World) (h1 : 1 ≤ k) (h8 : k ≤ 8) (hn : k ≤ 7 → (((n : Int) / 2 ^ (8 * k) != 0) = false)) :
    Calls Tryz.prog 84 #[.int .u64 n, .int .i64 k] w fun e w' => e = .returned (.tuple #[.string ⟨(be k n).toArray⟩, .int .i64 0]) ∧ Below w.heap.size w w' := by
  obtain ⟨i0, hi, hz0, hz1, hz2⟩ := info_parts info_u8
  have hmk : ∀ u : World, (Instr.makeSlice 127 (.int .i64 (k : Int)) (.int .i64 (k : Int))).run Tryz.prog u =
      .ok (.slice (some ⟨u.heap.size, 0, none⟩) k k) (u.alloc (.cells (u8s (fill k n 0)) 5)) := fun u => by
    have h := run_make (P := Tryz.prog) u 127 5 i0 (.int .u8 0) Tryz.underlying127 hi hz0 .i64 .i64 (k : Int) (k : Int) (by omega) (Int.le_refl _) (by rw [hz2]; omega) (by omega)
    rw [fill_zero, ← madeCells_u8]
    simpa [hz1, Value.cells] using h
  have e8 : ¬ k < 8 ∨ k ≤ 7 ∧ ((n : Int) / 2 ^ (8 * k) != 0) = false := by
    by_cases h : k < 8
    · exact .inr ⟨by omega, hn (by omega)⟩
    · exact .inl h
  clear hn hi hz0 hz1 hz2
  rcases e8 with h7 | ⟨h7, hn'⟩
  all_goals
    go_enter Tryz.func84, Tryz.ntmps84
    go_wp2
    go_loopw [29] (fun i wr => ∃ j : Nat, j ≤ k ∧ i = .int .i64 j ∧ Blk wr w.heap.size 5 (u8s (fill k n j)) ∧ Below w.heap.size w wr) (fun i _ => k - (intOf i).toNat)
    case atStart => exact ⟨0, by omega, rfl, Blk.new _ _ _, (Below.refl _ _).alloc (Nat.le_refl _) _⟩
    case round =>
      obtain ⟨j, hj, rfl, hb, hbelow⟩ := hrel
      by_cases hlt : j < k
      · have hcell : wr.cell? ⟨w.heap.size, k - 1 - j, none⟩ = some (.int .u8 ((fill k n j)[k - 1 - j]'(by rw [length_fill]; omega; omega)).toNat) := by
          rw [hb.cell, getElem?_u8s, List.getElem?_eq_getElem]
          rfl
        have hf := hb.frozen (k - 1 - j)
        go_wp2
        go_roundw
        case rel => exact ⟨j + 1, by omega, by go_num, by rw [byteVal, ← fill_set k n j hlt, ← u8s_set]; exact hb.set_ _ _, hbelow.setCell (Nat.le_refl _) _⟩
        case measure => simp [intOf]; omega
      · have hj' : j = k := by omega
        subst hj'
        have hcv := run_string_u8s (P := Tryz.prog) 127 5 9 Tryz.underlying127 Tryz.underlying5 Tryz.underlying9 w.heap.size j j _ (by rw [length_fill _ _ _ (Nat.le_refl _)]; exact Nat.le_refl _) _ hb
        rw [List.take_of_length_le (by rw [length_fill _ _ _ (Nat.le_refl _)]; exact Nat.le_refl _), fill_full] at hcv
        go_wp2
        go_ret2
        exact ⟨rfl, hbelow⟩
end Oct
end Go.Proofs.YtcmcmafeaabjmaaGreat
