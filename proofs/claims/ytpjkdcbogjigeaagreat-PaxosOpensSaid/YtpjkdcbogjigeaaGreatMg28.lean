/- Texts of this claim: PK. -/
import Derived.Test.YtpjkdcbogjigeaaGreatMg15
import Derived.Test.YtpjkdcbogjigeaaGreatMg27
namespace Go.Proofs.YtpjkdcbogjigeaaGreat.Vm
open Go Go.RowKit
set_option maxRecDepth 100000
namespace X12
structure PP where
  x : P0
  f : Int → Option Ent
  l : List (Ent × Int)
inductive PM where
  | idle (ms : Int)
  | act (mb : Nat) (x : P0) (f : Int → Option Ent) (es : Array MapEntry) (ck : Nat) (l : List Pr) (hd : Value)
def PM.c0 : PM → List T
  | .idle ms => pC ⟨ms, 0, 0, 0, 0, 0, 0⟩ nilM nilL
  | .act mb x _ _ _ l hd => pC x (.mp 1 mb) (.slx 1 2 (ptrs l) hd)
def PM.obs0 (b : Nat) (s : PM) : Nat × Ob := (b, .cells s.c0)
def PM.ob1 : PM → Nat × Ob
  | .idle _ => (0, .gone)
  | .act mb _ f es ck _ _ => (mb, .map .u32 (entT f) es ck)
def PM.ob2 : PM → Nat × Ob
  | .idle _ => (0, .gone)
  | .act _ _ _ _ _ l hd => room l hd
def PM.obs (b : Nat) (s : PM) : Obs := [s.obs0 b, s.ob1, s.ob2]
def PM.plain : PM → PP
  | .idle ms => ⟨⟨ms, 0, 0, 0, 0, 0, 0⟩, fun _ => none, []⟩
  | .act _ x f _ _ l _ => ⟨x, f, l.map fun q => (q.x, q.m)⟩
structure PM.Ok (s : PM) (gl : Glb) : Prop where
  own : match s with | .idle _ => True | .act _ _ _ _ _ l _ => Own l gl
  ph : match s with | .idle _ => True | .act _ x _ _ _ l _ => x.ph = 1 ∧ l = [] ∨ x.ph = 2
structure PP.Ok (p : PP) : Prop where
  ms : 1 ≤ p.x.ms ∧ p.x.ms ≤ 5
  fr : IsU32 p.x.fr
  nx : IsU32 p.x.nx
  pm : Mask p.x.pm
  win : p.x.ph = 1 → Win p.x.fr p.f
  mask : ∀ q ∈ p.l, Mask q.2
  len : p.l.length ≤ 16
def topOf (fr : Int) (f : Int → Option Ent) : Nat → Int
  | 0 => fr
  | k + 1 => if (f (fr + k)).isSome then fr + k + 1 else topOf fr f k
theorem topOf_eq {fr e : Int} {f : Int → Option Ent} (ht : Top fr f e) (_ : Win fr f) : ∀ k : Nat, k ≤ 16 → e ≤ fr + k → topOf fr f k = e := by
  intro k
  induction k with
  | zero => intro _ h; have := ht.1; simp [topOf]; omega
  | succ k ih =>
    intro hk h
    unfold topOf
    split
    · rename_i h1
      have := ht.2.1 _ h1
      push_cast at h
      omega
    · rename_i h1
      refine ih (by omega) ?_
      rcases ht.2.2 with h2 | h2
      · omega
      · have h3 : e - 1 ≠ fr + k := fun h4 => h1 (h4 ▸ h2)
        push_cast at h
        omega
theorem Top.le {fr e : Int} {f : Int → Option Ent} (ht : Top fr f e) (hw : Win fr f) : e ≤ fr + 16 := by
  rcases ht.2.2 with h | h
  · omega
  · have := (hw _ h).2.2; omega
theorem foldl_win {fr : Int} : ∀ {f : Int → Option Ent} (_ : Win fr f) (el : List Ent) (_ : ∀ e ∈ el, IsU32 e.s), Win fr (el.foldl (noteB fr) f)
  | _, h, [], _ => h
  | _, h, e :: el, he => foldl_win (noteB_win h (he e (by simp))) el fun e' h' => he e' (by simp [h'])
def pStart (p : PP) (n y fr : Int) : PP := ⟨⟨p.x.ms, 1, n, y, fr, fr, 0⟩, fun _ => none, []⟩
def pPromise (p : PP) (i n y : Int) (el : List Ent) : PP × Bool :=
  if p.x.ph = 1 ∧ n = p.x.n ∧ y = p.x.b ∧ isMas p.x.ms i = true ∧ hasM p.x.pm i = false then
    if 2 * cntM (withM p.x.pm i) > p.x.ms then
      (⟨{ p.x with pm := withM p.x.pm i, ph := 2, nx := if topOf p.x.fr (el.foldl (noteB p.x.fr) p.f) 16 < 4294967295 then topOf p.x.fr (el.foldl (noteB p.x.fr) p.f) 16 else 4294967295 }, fun _ => none,
        (mkEnts p.x.n p.x.b (el.foldl (noteB p.x.fr) p.f) p.x.fr (topOf p.x.fr (el.foldl (noteB p.x.fr) p.f) 16 - p.x.fr).toNat).map fun e => (e, 0)⟩, true)
    else (⟨{ p.x with pm := withM p.x.pm i }, el.foldl (noteB p.x.fr) p.f, p.l⟩, false)
  else (p, false)
def pPropose (p : PP) (c : Cmd) : PP × Int × Bool :=
  if p.x.ph = 2 ∧ p.l.length < 16 ∧ p.x.nx ≠ 4294967295 then (⟨{ p.x with nx := p.x.nx + 1 }, p.f, p.l ++ [(⟨p.x.nx, p.x.n, p.x.b, c⟩, 0)]⟩, p.x.nx, true) else (p, 0, false)
def accP (ms s i : Int) : List (Ent × Int) → List (Ent × Int) × Option Cmd
  | [] => ([], none)
  | q :: r => if q.1.s = s then
      (if 2 * cntM (withM q.2 i) > ms then ((q.1, withM q.2 i) :: r, some q.1.c) else ((q.1, withM q.2 i) :: (accP ms s i r).1, (accP ms s i r).2))
    else (q :: (accP ms s i r).1, (accP ms s i r).2)
def pAccepted (p : PP) (i n y s : Int) : PP × Cmd × Bool :=
  if p.x.ph = 2 ∧ n = p.x.n ∧ y = p.x.b ∧ isMas p.x.ms i = true then
    match accP p.x.ms s i p.l with
    | (l, some c) => (⟨p.x, p.f, l.filter fun q => !(q.1.s == s)⟩, c, true)
    | (l, none) => (⟨p.x, p.f, l⟩, c0, false)
  else (p, c0, false)
def pLearn (p : PP) (n : Int) : PP :=
  if p.x.ph = 2 then ⟨{ p.x with nx := if n > p.x.nx then n else p.x.nx }, p.f, p.l.filter fun q => !decide (q.1.s < n)⟩ else p
theorem accP_map (ms s i : Int) : ∀ l : List Pr, accP ms s i (l.map fun q => (q.x, q.m)) = ((accL ms s i l).1.map (fun q => (q.x, q.m)), (accL ms s i l).2)
  | [] => rfl
  | q :: r => by
    have ih := accP_map ms s i r
    simp only [List.map_cons, accP, accL]
    split
    · split
      · rfl
      · rw [ih]; rfl
    · rw [ih]; rfl
theorem Imp.gone_more {ts : List T} {ob : Obs} {gl : Glb} : Imp ts ob gl ts (ob ++ [(0, .gone)]) gl :=
  ⟨fun _ _ h => h, fun _ _ h => h.more (by simp [ObRel]) (by simp [obBlk]), fun b h => by
    rcases h with ⟨i, x, h1, h2⟩ | h1
    · rw [List.getElem?_append] at h1
      split at h1
      · exact .inl ⟨i, x, h1, h2⟩
      · rw [List.getElem?_singleton] at h1
        split at h1
        · injection h1 with h1; subst h1; simp [obBlk] at h2
        · cases h1
    · exact .inr h1⟩
theorem rel_nil_sl {M : Pm} {k : Nat} {v : Value} (h : Rel M (.v nilS) v) : Rel M (.sl k []) v := by
  simp only [Rel] at h ⊢
  exact ⟨none, 0, h, ⟨Nat.le_refl _, by omega, fun _ => ⟨rfl, rfl⟩, fun a e => by cases e⟩, by simp [El], by simp⟩
theorem Imp.nil_sl {ts : List T} {ob : Obs} {gl : Glb} (k j : Nat) (hj : ts[j]? = some (.v nilS)) : Imp ts ob gl (ts.set j (.sl k [])) ob gl := Imp.slotR hj fun _ _ h => rel_nil_sl h
theorem start_raw (b : Nat) (x : P0) (bm sl : T) (o1 o2 : Nat × Ob) (n y fr : Int) (gl : Glb) (Q : T → Obs → Glb → Prop) (hQ : ∀ mb, Q (.tup []) [(b, .cells (pC ⟨x.ms, 1, n, y, fr, fr, 0⟩ (.mp 1 mb) nilL)), (mb, .map .u32 (fun _ => none) #[] 0)] gl) : TCalls Tryz.prog 106 [.ptr 0 b 0, .agg [u32 n, u8 y], u32 fr] [(b, .cells (pC x bm sl)), o1, o2] gl Q := by
  refine TCalls.of Tryz.func106 rfl (CanCall.of Tryz.func106 rfl (by decide)) [0,4] fun Γ => ?_
  let HH : Nat → Nat → Hint := fun  | _, _ => .no
  exact run_sound ⟨HH, [], fun | 2 => some ⟨[0,3], [11], .take true [0,1,2,3,4,5,6,7] (.one 8 (.take true [9,10] (.one 11 .done)))⟩ | _ => none⟩ 400 (by kernel_rfl) (fun (Z0 : Nat) => (Yb b (Yb Z0 (fun (Z1 : Nat) => (Yk 9 b (hQ Z1))))))
theorem phase_raw (b : Nat) (x : P0) (bm sl : T) (o1 o2 : Nat × Ob) (gl : Glb) (Q : T → Obs → Glb → Prop) (hQ : ∀ r, r = .tup [int x.ph, .agg [u32 x.n, u8 x.b], u32 x.nx] → Q r [(b, .cells (pC x bm sl)), o1, o2] gl) : TCalls Tryz.prog 26 [.ptr 0 b 0] [(b, .cells (pC x bm sl)), o1, o2] gl Q := by
  refine TCalls.of Tryz.func26 rfl (CanCall.of Tryz.func26 rfl (by decide)) [0,1,2] fun Γ => ?_
  let HH : Nat → Nat → Hint := fun  | _, _ => .no
  exact run_sound ⟨HH, [], fun | 3 => some ⟨[0], [], .take true [0,1,2,3,4,5,6,7,8,9,10,11,12] (.one 13 (.take true [14] .done))⟩ | _ => none⟩ 400 (by kernel_rfl) (fun (Z0 : Nat) => (Yb b (Yb b (Yb b (Yk 2 Z0 (Yb Z0 (hQ (T.tup [int x.ph, T.agg [u32 x.n, u8 x.b], u32 x.nx]) rfl)))))))
theorem promise_raw (b mb : Nat) (x : P0) (f : Int → Option Ent) (es : Array MapEntry) (ck : Nat) (l : List Pr) (hd : Value) (i n y : Int) (el : List Ent) (gl : Glb) (hx : x.ph ≠ 1) (Q : T → Obs → Glb → Prop)
    (hQ : Q (bool false) (PS b mb x f es ck l hd) gl) : TCalls Tryz.prog 75 [.ptr 0 b 0, u8 i, .agg [u32 n, u8 y], .sl 8 (ents el)] (PS b mb x f es ck l hd) gl Q := by
  refine TCalls.of Tryz.func75 rfl (CanCall.of Tryz.func75 rfl (by decide)) [0,1,2] fun Γ => ?_
  refine run_sound (⟨fun | 1, 20 => told (bool (isMas x.ms i)) [0] [(b, .cells (pC x (.mp 1 mb) (.slx 1 2 (ptrs l) hd)))] | 1, 29 => told (bool (hasM x.pm i)) [] [] | 3, 6 => told (u64 (withM x.pm i)) [] [] | _, _ => .no, [((2, 5), ([0,51,52,53], 4))], fun | 1 => some ⟨[0,3], [20,29], .take true [0,1,2,3,4,5,6,7,8,9,10,11,12,13,14,15,16,17,18,19] (.one 20 (.take false [21,22,23,24,25,26,28] (.one 27 (.one 29 (.take false [30] .done)))))⟩ | _ => none⟩) 400 (B := ∀ (b_1 : Nat), b = b ∧ bsplit (P0.ph x != (1 : Int)) (Q (bool false) [(b, Ob.cells [int (P0.ms x), int (P0.ph x), u32 (P0.n x), u8 (P0.b x), u32 (P0.fr x), u32 (P0.nx x), u64 (P0.pm x), T.mp 1 mb, T.slx 1 2 (ptrs l) hd]), (mb, Ob.map IntKind.u32 (entT f) es ck), (0, Ob.room 1 165 (List.length (ptrs l)) hd)] gl) (b_1 = b_1 ∧ b = b ∧ bsplit (!(n == P0.n x && (y == P0.b x && true) && true)) (Q (bool false) [(b, Ob.cells [int (P0.ms x), int (P0.ph x), u32 (P0.n x), u8 (P0.b x), u32 (P0.fr x), u32 (P0.nx x), u64 (P0.pm x), T.mp 1 mb, T.slx 1 2 (ptrs l) hd]), (mb, Ob.map IntKind.u32 (entT f) es ck), (0, Ob.room 1 165 (List.length (ptrs l)) hd)] gl) (TCalls Tryz.prog 112 [T.ptr 0 b 0, u8 i] [(b, Ob.cells [int (P0.ms x), int (P0.ph x), u32 (P0.n x), u8 (P0.b x), u32 (P0.fr x), u32 (P0.nx x), u64 (P0.pm x), T.mp 1 mb, T.slx 1 2 (ptrs l) hd])] (fun x => none) (callPost (Hint.call false Unit (fun x => True) [0] false (fun x_1 => bool (isMas (P0.ms x) i)) (fun x_1 => [(b, Ob.cells (pC x (T.mp 1 mb) (T.slx 1 2 (ptrs l) hd)))]) fun x => none_)) ∧ ∀ (a : Unit), True → bsplit (!isMas (P0.ms x) i) (Q (bool false) [(b, Ob.cells [int (P0.ms x), int (P0.ph x), u32 (P0.n x), u8 (P0.b x), u32 (P0.fr x), u32 (P0.nx x), u64 (P0.pm x), T.mp 1 mb, T.slx 1 2 (ptrs l) hd]), (mb, Ob.map IntKind.u32 (entT f) es ck), (0, Ob.room 1 165 (List.length (ptrs l)) hd)] gl) (b = b ∧ TCalls Tryz.prog 125 [u64 (P0.pm x), u8 i] [] (fun x => none) (callPost (Hint.call false Unit (fun x => True) [] false (fun x_2 => bool (hasM (P0.pm x) i)) (fun x => []) fun x => none_)) ∧ ∀ (a : Unit), True → bsplit (hasM (P0.pm x) i) (Q (bool false) [(b, Ob.cells [int (P0.ms x), int (P0.ph x), u32 (P0.n x), u8 (P0.b x), u32 (P0.fr x), u32 (P0.nx x), u64 (P0.pm x), T.mp 1 mb, T.slx 1 2 (ptrs l) hd]), (mb, Ob.map IntKind.u32 (entT f) es ck), (0, Ob.room 1 165 (List.length (ptrs l)) hd)] gl) (b = b ∧ TCalls Tryz.prog 113 [u64 (P0.pm x), u8 i] [] (fun x => none) (callPost (Hint.call false Unit (fun x => True) [] false (fun x_3 => u64 (withM (P0.pm x) i)) (fun x => []) fun x => none_)) ∧ ∀ (a : Unit), True → (1 = nat_lit 1 ∧ List.all (List.map T.v (Array.toList #[Value.int IntKind.u64 (withM (P0.pm x) i)])) T.one = true) ∧ b = b ∧ 6 + nat_lit 1 ≤ 9 ∧ TWk Tryz.prog Γ (fin Tryz.prog Tryz.f75 [0, 1, 2] Q) [It.code (sub (bd Tryz.f75) [1, 1, 1, 0, 1, 0]), It.blk 0, It.code (sub (bd Tryz.f75) [1, 1, 1, 1])] { fr := frame 70 [(0, T.ptr 0 b 0), (51, T.sl 8 (ents el)), (52, int (List.length (ents el))), (53, int (0 : Int))], ob := [(b, Ob.cells [int (P0.ms x), int (P0.ph x), u32 (P0.n x), u8 (P0.b x), u32 (P0.fr x), u32 (P0.nx x), u64 (withM (P0.pm x) i), T.mp 1 mb, T.slx 1 2 (ptrs l) hd]), (mb, Ob.map IntKind.u32 (entT f) es ck), (0, Ob.room 1 165 (List.length (ptrs l)) hd), (b_1, Ob.cells [u32 n, u8 y])], gl := gl }))))) (by kernel_rfl) ?_
  exact fun b1 => ⟨rfl, bsplit_mk (fun h => hQ) (fun h1 => by simp at h1; exact absurd h1 hx)⟩
section
variable (b : Nat) (s : PM) (gl : Glb) (Q : T → Obs → Glb → Prop)
theorem new_u (ms : Int) (h : 1 ≤ ms ∧ ms ≤ 5) (hQ : ∀ b, Q (.tup [.ptr 0 b 0, .v (.int .i64 0)]) ((PM.idle ms).obs b) none_) : TCalls Tryz.prog 40 [int ms] [] none_ Q :=
  (new_any ms h (fun r ob gl => ∃ b, r = .tup [.ptr 0 b 0, .v (.int .i64 0)] ∧ ob = [(b, .cells (pC ⟨ms, 0, 0, 0, 0, 0, 0⟩ nilM nilL))] ∧ gl = none_) (fun b => ⟨b, rfl, rfl, rfl⟩)).post fun r ob gl ⟨b, h1, h2, h3⟩ => by
    subst h1 h2 h3
    exact ⟨_, _, _, Imp.gone_more.trans Imp.gone_more, hQ b⟩
theorem start_u (n y fr : Int) (hQ : ∀ mb, Q (.tup []) ((PM.act mb ⟨s.plain.x.ms, 1, n, y, fr, fr, 0⟩ (fun _ => none) #[] 0 [] nilS).obs b) gl) : TCalls Tryz.prog 106 [.ptr 0 b 0, .agg [u32 n, u8 y], u32 fr] (s.obs b) gl Q := by
  have key : ∀ (x : P0) (bm sl : T), x.ms = s.plain.x.ms → s.obs0 b = (b, .cells (pC x bm sl)) → TCalls Tryz.prog 106 [.ptr 0 b 0, .agg [u32 n, u8 y], u32 fr] (s.obs b) gl Q := fun x bm sl hx he => by
    unfold PM.obs
    rw [he]
    refine (start_raw b x bm sl s.ob1 s.ob2 n y fr gl (fun r ob gl' => ∃ mb, r = .tup [] ∧ ob = [(b, .cells (pC ⟨x.ms, 1, n, y, fr, fr, 0⟩ (.mp 1 mb) nilL)), (mb, .map .u32 (fun _ => none) #[] 0)] ∧ gl' = gl) (fun mb => ⟨mb, rfl, rfl, rfl⟩)).post fun r ob gl' ⟨mb, h1, h2, h3⟩ => ?_
    subst h1 h2 h3
    have h := hQ mb
    rw [← hx] at h
    exact ⟨_, _, _, (Imp.room 1 165).trans (Imp.cell (i := 0) (b := b) (cs := pC ⟨x.ms, 1, n, y, fr, fr, 0⟩ (.mp 1 mb) nilL) (j := 8) 1 2 rfl rfl), h⟩
  cases s with
  | idle ms => exact key _ _ _ rfl rfl
  | act mb x f es ck l hd => exact key _ _ _ rfl rfl
theorem phase_u (hQ : ∀ r, r = .tup [int s.plain.x.ph, .agg [u32 s.plain.x.n, u8 s.plain.x.b], u32 s.plain.x.nx] → Q r (s.obs b) gl) : TCalls Tryz.prog 26 [.ptr 0 b 0] (s.obs b) gl Q := by
  cases s with
  | idle ms => exact phase_raw b _ _ _ _ _ gl Q hQ
  | act mb x f es ck l hd => exact phase_raw b _ _ _ _ _ gl Q hQ
def Left (p : PP) (s' : PM) (gl' : Glb) : Prop := s'.plain = p ∧ s'.Ok gl'
theorem idle_more {P : Program} {f : FuncId} {ts : List T} {ms : Int} (h : TCalls P f ts (idle b ms) gl (fun r ob gl' => ob = idle b ms ∧ gl' = gl ∧ Q r ((PM.idle ms).obs b) gl)) : TCalls P f ts ((PM.idle ms).obs b) gl Q :=
  (h.pre (Imp.take (ob := (PM.idle ms).obs b) 1)).post fun r ob gl' ⟨h1, h2, h3⟩ => by
    subst h1 h2
    exact ⟨_, _, _, Imp.gone_more.trans Imp.gone_more, h3⟩
theorem promise_u (i n y : Int) (el : List Ent) (ho : s.Ok gl) (hp : s.plain.Ok) (hi : 0 ≤ i ∧ i < 256) (hel : ∀ e ∈ el, IsU32 e.s) (hlen : el.length ≤ 1000)
    (hQ : ∀ s' gl', Left (pPromise s.plain i n y el).1 s' gl' → Q (bool (pPromise s.plain i n y el).2) (s'.obs b) gl') : TCalls Tryz.prog 75 [.ptr 0 b 0, u8 i, .agg [u32 n, u8 y], .sl 8 (ents el)] (s.obs b) gl Q := by
  cases s with
  | idle ms => exact idle_more b gl Q (promise_idle b ms i n y _ gl _ ⟨rfl, rfl, hQ (.idle ms) gl ⟨by simp [pPromise, PM.plain], ho⟩⟩)
  | act mb x f es ck l hd =>
    have no : ¬ (x.ph = 1 ∧ n = x.n ∧ y = x.b ∧ isMas x.ms i = true ∧ hasM x.pm i = false) → Q (bool false) (PS b mb x f es ck l hd) gl := fun hn => by
      have := hQ (.act mb x f es ck l hd) gl
      rw [pPromise, PM.plain, if_neg hn] at this
      exact this ⟨rfl, ho⟩
    rcases ho.ph with ⟨h1, h2⟩ | h1
    · subst h2
      refine promise_any b mb x f es ck hd i n y el gl hp.fr hp.pm hp.ms.2 hi (hp.win h1) hel hlen Q (fun h => no ?_) (fun g1 g2 g3 g4 g5 g6 es' ck' => ?_) (fun g1 g2 g3 g4 g5 g6 e d hd' gl' es' ck' k1 k2 k3 k4 => ?_)
      · rintro ⟨g1, g2, g3, g4, g5⟩
        rcases h with h | h | h | h | h
        · exact h g1
        · exact h g2
        · exact h g3
        · rw [g4] at h; cases h
        · rw [g5] at h; cases h
      · have := hQ (.act mb { x with pm := withM x.pm i } (el.foldl (noteB x.fr) f) es' ck' [] hd) gl
        rw [pPromise, PM.plain, if_pos ⟨g1, g2, g3, g4, g5⟩, if_neg g6] at this
        exact this ⟨rfl, ho.own, .inl ⟨h1, rfl⟩⟩
      · have hw : Win x.fr (el.foldl (noteB x.fr) f) := by
          have hw0 : Win x.fr f := hp.win h1
          exact foldl_win hw0 el hel
        have ht := topOf_eq k1 hw 16 (Nat.le_refl _) (by have := k1.le hw; simpa using this)
        have := hQ (.act mb { x with pm := withM x.pm i, ph := 2, nx := if e < 4294967295 then e else 4294967295 } (fun _ => none) es' ck' d hd') gl'
        rw [pPromise, PM.plain, if_pos ⟨g1, g2, g3, g4, g5⟩, if_pos g6] at this
        refine this ⟨?_, k2, .inr rfl⟩
        simp only [PM.plain]
        rw [ht, ← k3, List.map_map]
        congr 1
        exact List.map_congr_left fun q hq => by simp [k4 q hq]
    · exact promise_raw b mb x f es ck l hd i n y el gl (by omega) Q (no (by omega))
theorem propose_u (c : Cmd) (ho : s.Ok gl) (hp : s.plain.Ok) (hQ : ∀ s' gl', Left (pPropose s.plain c).1 s' gl' → Q (.tup [u32 (pPropose s.plain c).2.1, bool (pPropose s.plain c).2.2]) (s'.obs b) gl') : TCalls Tryz.prog 45 [.ptr 0 b 0, .agg (cmdC c)] (s.obs b) gl Q := by
  cases s with
  | idle ms => exact idle_more b gl Q (propose_idle b ms c gl _ ⟨rfl, rfl, hQ (.idle ms) gl ⟨by simp [pPropose, PM.plain], ho⟩⟩)
  | act mb x f es ck l hd =>
    have hl : l.length ≤ 16 := by have := hp.len; simpa [PM.plain] using this
    refine propose_any b mb x f es ck l hd c gl (by omega) hp.nx Q (fun h => ?_) (fun g1 g2 g3 nb hd' hn => ?_)
    · have hn : ¬ (x.ph = 2 ∧ (l.map fun q => (q.x, q.m)).length < 16 ∧ x.nx ≠ 4294967295) := by
        rw [List.length_map]
        rintro ⟨h1, h2, h3⟩
        rcases h with h | h | h
        · exact h h1
        · omega
        · exact h3 h
      have := hQ (.act mb x f es ck l hd) gl
      rw [pPropose, PM.plain, if_neg hn] at this
      exact this ⟨rfl, ho⟩
    · have hy : (x.ph = 2 ∧ (l.map fun q => (q.x, q.m)).length < 16 ∧ x.nx ≠ 4294967295) := ⟨g1, by rw [List.length_map]; exact g2, g3⟩
      have := hQ (.act mb { x with nx := x.nx + 1 } f es ck (l ++ [⟨nb, ⟨x.nx, x.n, x.b, c⟩, 0⟩]) hd') (setGl gl nb (prC ⟨x.nx, x.n, x.b, c⟩ 0))
      rw [pPropose, PM.plain, if_pos hy] at this
      exact this ⟨by simp [PM.plain], ho.own.add hn _ _, .inr g1⟩
theorem accepted_u (i n y t : Int) (ho : s.Ok gl) (hp : s.plain.Ok) (hi : 0 ≤ i ∧ i < 256)
    (hQ : ∀ s' gl', Left (pAccepted s.plain i n y t).1 s' gl' → Q (.tup [.agg (cmdC (pAccepted s.plain i n y t).2.1), bool (pAccepted s.plain i n y t).2.2]) (s'.obs b) gl') : TCalls Tryz.prog 58 [.ptr 0 b 0, u8 i, .agg [u32 n, u8 y], u32 t] (s.obs b) gl Q := by
  cases s with
  | idle ms => exact idle_more b gl Q (accepted_idle b ms i n y t gl _ ⟨rfl, rfl, hQ (.idle ms) gl ⟨by simp [pAccepted, PM.plain], ho⟩⟩)
  | act mb x f es ck l hd =>
    have hl : l.length ≤ 16 := by have := hp.len; simpa [PM.plain] using this
    refine accepted_any b mb x f es ck l hd i n y t gl (by omega) hi hp.ms.2 ho.own (fun q hq => hp.mask (q.x, q.m) (List.mem_map_of_mem (f := fun q : Pr => (q.x, q.m)) hq)) Q (fun h => ?_) (fun g1 g2 g3 g4 gl' hd' k1 k2 => ?_) (fun g1 g2 g3 g4 c gl' hd' k1 k2 => ?_)
    · have hn : ¬ (x.ph = 2 ∧ n = x.n ∧ y = x.b ∧ isMas x.ms i = true) := by
        rintro ⟨g1, g2, g3, g4⟩
        rcases h with h | h | h | h
        · exact h g1
        · exact h g2
        · exact h g3
        · rw [g4] at h; cases h
      have := hQ (.act mb x f es ck l hd) gl
      rw [pAccepted, PM.plain, if_neg hn] at this
      exact this ⟨rfl, ho⟩
    · have := hQ (.act mb x f es ck (accL x.ms t i l).1 hd') gl'
      rw [pAccepted, PM.plain, if_pos ⟨g1, g2, g3, g4⟩, accP_map, k1] at this
      exact this ⟨rfl, k2, .inr g1⟩
    · have := hQ (.act mb x f es ck ((accL x.ms t i l).1.filter fun q => !(q.x.s == t)) hd') gl'
      rw [pAccepted, PM.plain, if_pos ⟨g1, g2, g3, g4⟩, accP_map, k1] at this
      refine this ⟨?_, ⟨fun q hq => k2.1 q (List.mem_filter.1 hq |>.1), (k2.2.sublist (List.Sublist.map _ List.filter_sublist))⟩, .inr g1⟩
      simp only [PM.plain, List.filter_map]
      rfl
theorem learn_u (n : Int) (ho : s.Ok gl) (hp : s.plain.Ok) (hQ : ∀ s' gl', Left (pLearn s.plain n) s' gl' → Q (.tup []) (s'.obs b) gl') : TCalls Tryz.prog 80 [.ptr 0 b 0, u32 n] (s.obs b) gl Q := by
  cases s with
  | idle ms => exact idle_more b gl Q (learn_idle b ms n gl _ ⟨rfl, rfl, hQ (.idle ms) gl ⟨by simp [pLearn, PM.plain], ho⟩⟩)
  | act mb x f es ck l hd =>
    have hl : l.length ≤ 16 := by have := hp.len; simpa [PM.plain] using this
    refine learn_any b mb x f es ck l hd n gl (by omega) ho.own Q (fun h => ?_) (fun g1 hd' => ?_)
    · have := hQ (.act mb x f es ck l hd) gl
      rw [pLearn, PM.plain, if_neg h] at this
      exact this ⟨rfl, ho⟩
    · have := hQ (.act mb { x with nx := if n > x.nx then n else x.nx } f es ck (l.filter fun q => !decide (q.x.s < n)) hd') gl
      rw [pLearn, PM.plain, if_pos g1] at this
      refine this ⟨?_, ⟨fun q hq => ho.own.1 q (List.mem_filter.1 hq |>.1), (ho.own.2.sublist (List.Sublist.map _ List.filter_sublist))⟩, .inr g1⟩
      simp only [PM.plain, List.filter_map]
      rfl
theorem pending_u (ho : s.Ok gl) (hp : s.plain.Ok) (hQ : ∀ r, r = .sl 8 (ents (s.plain.l.map (·.1))) → Q r (s.obs b) gl) : TCalls Tryz.prog 28 [.ptr 0 b 0] (s.obs b) gl Q := by
  cases s with
  | idle ms =>
    refine idle_more b gl Q ((pending_idle b ms gl (fun r ob gl' => r = nilL ∧ ob = idle b ms ∧ gl' = gl) ⟨rfl, rfl, rfl⟩).post fun r ob gl' ⟨h1, h2, h3⟩ => ?_)
    subst h1 h2 h3
    exact ⟨_, _, _, Imp.nil_sl (ts := [nilL]) 8 0 rfl, rfl, rfl, hQ _ rfl⟩
  | act mb x f es ck l hd =>
    have hl : l.length ≤ 16 := by have := hp.len; simpa [PM.plain] using this
    have e : (PM.act mb x f es ck l hd).plain.l.map (·.1) = l.map (·.x) := by simp [PM.plain]
    rw [e] at hQ
    exact pending_any b mb x f es ck l hd gl (by omega) ho.own Q (hQ _ rfl)
end
theorem mask0 : Mask 0 := ⟨by decide, by decide⟩
theorem topOf_bounds (fr : Int) (f : Int → Option Ent) : ∀ k : Nat, fr ≤ topOf fr f k ∧ topOf fr f k ≤ fr + k
  | 0 => by simp [topOf]
  | k + 1 => by
    have := topOf_bounds fr f k
    unfold topOf
    split
    · omega
    · push_cast; omega
theorem mkEnts_len (n b : Int) (f : Int → Option Ent) : ∀ (k : Nat) (s : Int), (mkEnts n b f s k).length = k
  | 0, _ => rfl
  | k + 1, s => by simp [mkEnts, mkEnts_len n b f k]
theorem pStart_ok {p : PP} (h : p.Ok) {fr : Int} (n y : Int) (hf : IsU32 fr) : (pStart p n y fr).Ok :=
  ⟨h.ms, hf, hf, mask0, fun _ z hz => by simp [pStart] at hz, fun q hq => by simp [pStart] at hq, by simp [pStart]⟩
theorem isMas_mas {ms i : Int} (h : isMas ms i = true) (hm : ms ≤ 5) : Mas i := by
  have : 1 ≤ i ∧ i ≤ ms := by simpa [isMas] using h
  exact ⟨this.1, by omega⟩
theorem pPromise_ok {p : PP} (h : p.Ok) (i n y : Int) {el : List Ent} (he : ∀ e ∈ el, IsU32 e.s) : (pPromise p i n y el).1.Ok := by
  unfold pPromise
  split
  · rename_i g
    obtain ⟨g1, g2, g3, g4, g5⟩ := g
    have hpm := withM_mask h.pm (isMas_mas g4 h.ms.2)
    have hb := topOf_bounds p.x.fr (el.foldl (noteB p.x.fr) p.f) 16
    have hf := h.fr
    split
    · refine ⟨h.ms, h.fr, ?_, hpm, fun g => by simp at g, fun q hq => ?_, ?_⟩
      · unfold IsU32 at *
        dsimp only
        split <;> omega
      · obtain ⟨e, _, rfl⟩ := List.mem_map.1 hq
        exact mask0
      · simp only [List.length_map, mkEnts_len]; omega
    · exact ⟨h.ms, h.fr, h.nx, hpm, fun _ => foldl_win (h.win g1) el he, h.mask, h.len⟩
  · exact h
theorem pPropose_ok {p : PP} (h : p.Ok) (c : Cmd) : (pPropose p c).1.Ok := by
  unfold pPropose
  split
  · rename_i g
    obtain ⟨g1, g2, g3⟩ := g
    have hx := h.nx
    refine ⟨h.ms, h.fr, ?_, h.pm, h.win, fun q hq => ?_, ?_⟩
    · unfold IsU32 at *; dsimp only; omega
    · rcases List.mem_append.1 hq with hq | hq
      · exact h.mask q hq
      · simp at hq; subst hq; exact mask0
    · simp; omega
  · exact h
theorem accP_len (ms s i : Int) : ∀ l : List (Ent × Int), (accP ms s i l).1.length = l.length
  | [] => rfl
  | q :: r => by simp only [accP]; split <;> (try split) <;> simp [accP_len ms s i r]
theorem accP_mask {ms s i : Int} (hi : Mas i) : ∀ l : List (Ent × Int), (∀ q ∈ l, Mask q.2) → ∀ q ∈ (accP ms s i l).1, Mask q.2
  | [], _ => by simp [accP]
  | q :: r, h => by
    have ih := accP_mask (ms := ms) (s := s) hi r (fun q' hq => h q' (by simp [hq]))
    have h1 := withM_mask (h q (by simp)) hi
    have h0 := h q (by simp)
    have h2 : ∀ q' ∈ r, Mask q'.2 := fun q' hq => h q' (by simp [hq])
    simp only [accP]
    split
    · split
      · intro q' hq
        rcases List.mem_cons.1 hq with rfl | hq
        · exact h1
        · exact h2 _ hq
      · intro q' hq
        rcases List.mem_cons.1 hq with rfl | hq
        · exact h1
        · exact ih _ hq
    · intro q' hq
      rcases List.mem_cons.1 hq with rfl | hq
      · exact h0
      · exact ih _ hq
theorem pAccepted_ok {p : PP} (h : p.Ok) (i n y s : Int) : (pAccepted p i n y s).1.Ok := by
  unfold pAccepted
  split
  · rename_i g
    obtain ⟨g1, g2, g3, g4⟩ := g
    have hi := isMas_mas g4 h.ms.2
    have hl := accP_len p.x.ms s i p.l
    have hm := accP_mask (ms := p.x.ms) (s := s) hi p.l h.mask
    have hp := h.len
    split
    · rename_i l c e
      rw [e] at hl hm
      exact ⟨h.ms, h.fr, h.nx, h.pm, h.win, fun q hq => hm q (List.mem_filter.1 hq).1, Nat.le_trans (List.length_filter_le _ _) (by simp at hl; omega)⟩
    · rename_i l e
      rw [e] at hl hm
      exact ⟨h.ms, h.fr, h.nx, h.pm, h.win, hm, by simp at hl; dsimp only; omega⟩
  · exact h
theorem pLearn_ok {p : PP} (h : p.Ok) {n : Int} (hn : IsU32 n) : (pLearn p n).Ok := by
  unfold pLearn
  split
  · refine ⟨h.ms, h.fr, ?_, h.pm, h.win, fun q hq => h.mask q (List.mem_filter.1 hq).1, Nat.le_trans (List.length_filter_le _ _) h.len⟩
    have := h.nx
    dsimp only
    split <;> assumption
  · exact h
end X12
def pmH (b : Nat) (r : T) (p : X12.PP) : Hint := .call false (X12.PM × Glb) (fun a => X12.Left p a.1 a.2) [0,1,2] true (fun _ => r) (fun a => a.1.obs b) (fun a => a.2)
namespace X12
theorem pm_post {b : Nat} {r r' : T} {p' : PP} {s' : PM} {gl' : Glb} (h : Left p' s' gl') (hr : r' = r) : callPost (pmH b r p') r' (s'.obs b) gl' := ⟨(s', gl'), h, hr, rfl, Nat.le_of_ble_eq_true rfl, fun _ => rfl⟩
section
variable {b : Nat} {s : PM} {gl : Glb} {p : PP} (hl : Left p s gl) (hp : p.Ok)
include hl
theorem start_h (n y fr : Int) : TCalls Tryz.prog 106 [.ptr 0 b 0, .agg [u32 n, u8 y], u32 fr] (s.obs b) gl (callPost (pmH b (.tup []) (pStart p n y fr))) := by
  obtain ⟨rfl, ho⟩ := hl
  exact start_u b s gl _ n y fr fun mb => pm_post ⟨by simp [PM.plain, pStart], ⟨⟨by simp, by simp⟩, .inl ⟨rfl, rfl⟩⟩⟩ rfl
include hp
theorem promise_h (i n y : Int) (el : List Ent) (hi : 0 ≤ i ∧ i < 256) (hel : ∀ e ∈ el, IsU32 e.s) (hlen : el.length ≤ 1000) :
    TCalls Tryz.prog 75 [.ptr 0 b 0, u8 i, .agg [u32 n, u8 y], .sl 8 (ents el)] (s.obs b) gl (callPost (pmH b (bool (pPromise p i n y el).2) (pPromise p i n y el).1)) := by
  obtain ⟨rfl, ho⟩ := hl
  exact promise_u b s gl _ i n y el ho hp hi hel hlen fun s' gl' h => pm_post h rfl
theorem propose_h (c : Cmd) : TCalls Tryz.prog 45 [.ptr 0 b 0, .agg (cmdC c)] (s.obs b) gl (callPost (pmH b (.tup [u32 (pPropose p c).2.1, bool (pPropose p c).2.2]) (pPropose p c).1)) := by
  obtain ⟨rfl, ho⟩ := hl
  exact propose_u b s gl _ c ho hp fun s' gl' h => pm_post h rfl
theorem accepted_h (i n y t : Int) (hi : 0 ≤ i ∧ i < 256) : TCalls Tryz.prog 58 [.ptr 0 b 0, u8 i, .agg [u32 n, u8 y], u32 t] (s.obs b) gl (callPost (pmH b (.tup [.agg (cmdC (pAccepted p i n y t).2.1), bool (pAccepted p i n y t).2.2]) (pAccepted p i n y t).1)) := by
  obtain ⟨rfl, ho⟩ := hl
  exact accepted_u b s gl _ i n y t ho hp hi fun s' gl' h => pm_post h rfl
theorem learn_h (n : Int) : TCalls Tryz.prog 80 [.ptr 0 b 0, u32 n] (s.obs b) gl (callPost (pmH b (.tup []) (pLearn p n))) := by
  obtain ⟨rfl, ho⟩ := hl
  exact learn_u b s gl _ n ho hp fun s' gl' h => pm_post h rfl
theorem pending_h : TCalls Tryz.prog 28 [.ptr 0 b 0] (s.obs b) gl (callPost (pmH b (.sl 8 (ents (p.l.map (·.1)))) p)) := by
  have hl0 := hl
  obtain ⟨rfl, ho⟩ := hl
  exact pending_u b s gl _ ho hp fun r h => pm_post hl0 h
theorem phase_h : TCalls Tryz.prog 26 [.ptr 0 b 0] (s.obs b) gl (callPost (pmH b (.tup [int p.x.ph, .agg [u32 p.x.n, u8 p.x.b], u32 p.x.nx]) p)) := by
  have hl0 := hl
  obtain ⟨rfl, ho⟩ := hl
  exact phase_u b s gl _ fun r h => pm_post hl0 h
theorem propose_e (c : Cmd) {r : Int × Bool} (e : (pPropose p c).2 = r) : TCalls Tryz.prog 45 [.ptr 0 b 0, .agg (cmdC c)] (s.obs b) gl (callPost (pmH b (.tup [u32 r.1, bool r.2]) (pPropose p c).1)) := e ▸ propose_h hl hp c
end
end X12
end Go.Proofs.YtpjkdcbogjigeaaGreat.Vm
