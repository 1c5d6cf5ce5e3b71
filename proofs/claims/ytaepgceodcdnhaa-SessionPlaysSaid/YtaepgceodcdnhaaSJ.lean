/- Sessions by the engine: the document's table; how many calls are open. -/
import Derived.Test.YtaepgceodcdnhaaSG
import Derived.Test.YtaepgceodcdnhaaSes1
import Derived.Test.YtaepgceodcdnhaaRow
namespace Go.Proofs.Ytaepgceodcdnhaa.Vm
open Go Go.RowKit
set_option maxRecDepth 100000
namespace X22
open Ses (Cl look put lost lose at_ open_ opn cnt)
open Jrn (Dk)
def rowC (p : Nat × Cl) : List T := [u32 p.1, u32 p.2.q, bool p.2.o, int p.2.e, bool p.2.h, str p.2.x]
def rows (l : List (Nat × Cl)) : List T := Row.aggs rowC l
theorem rows_len (l : List (Nat × Cl)) : (rows l).length = l.length := Row.aggs_len l
theorem rowC_len (p : Nat × Cl) : (rowC p).length = 6 := rfl
theorem rowC_one (p : Nat × Cl) : (rowC p).all T.one = true := rfl
def rtC (lf : Nat) (l : List (Nat × Cl)) : List T := [int lf, .sl 6 (rows l)]
def noC : Cl := ⟨0, false, 0, false, []⟩
theorem rat_loop (Γ : Ctx) (b lf : Nat) (l : List (Nat × Cl)) (hl : l.length ≤ 1000) (s : Nat) (Q : T → Obs → Glb → Prop) (hQ : ∀ x, x = int (at_ l s 0) → Q x [] none_) : ∀ (r d : List (Nat × Cl)), l = d ++ r → at_ l s 0 = at_ r s d.length →
    TWk Try.prog Γ (fin Try.prog Try.f32 [] Q) [.code (sub (bd Try.f32) [1, 0, 1, 0]), .blk 0, .code (sub (bd Try.f32) [1, 1])] ⟨frame 22 [(1, u32 s), (2, .ptr 0 b 0), (5, int d.length)], [(b, .cells (rtC lf l))], none_⟩ := by
  intro r
  induction r with
  | nil =>
    intro d h1 hf
    have e : d.length = l.length := by rw [h1]; simp
    rw [hf] at hQ
    refine run_sound (⟨fun _ _ => .no, [((2, 2), ([1, 2, 5], 1)), ((0, 4), ([1, 2, 5], 1))], fun _ => none⟩) 400 (B := b = b ∧ bsplit (decide ((↑(List.length d) : Int) < (↑(List.length (rows l)) : Int))) (TWk Try.prog Γ (fin Try.prog Try.f32 [] Q) [It.code (sub (bd Try.f32) [(1 : Nat), (0 : Nat), (1 : Nat), (0 : Nat), (0 : Nat), (1 : Nat), (0 : Nat), (0 : Nat)]), It.blk (1 : Nat), It.code (sub (bd Try.f32) [(1 : Nat), (0 : Nat), (1 : Nat), (0 : Nat), (0 : Nat), (1 : Nat), (1 : Nat)]), It.code (sub (bd Try.f32) [(1 : Nat), (0 : Nat), (1 : Nat), (0 : Nat)]), It.blk (0 : Nat), It.code (sub (bd Try.f32) [(1 : Nat), (1 : Nat)])] { fr := [T.und, T.v (Value.int IntKind.u32 (↑s : Int)), T.ptr (0 : Nat) b (0 : Nat), T.und, T.und, T.v (Value.int IntKind.i64 (↑(List.length d) : Int)), T.und, T.und, T.und, T.und, T.und, T.und, T.und, T.und, T.und, T.und, T.und, T.und, T.und, T.und, T.und, T.und], ob := [(b, Ob.cells [T.v (Value.int IntKind.i64 (↑lf : Int)), T.sl (6 : Nat) (rows l)])], gl := fun x => none }) (Q (T.v (Value.int IntKind.i64 (-1 : Int))) [] fun x => none)) (by kernel_rfl) ?_
    repeat' (first | exact rfl | exact Nat.le_of_ble_eq_true rfl | refine And.intro ?_ ?_ | intro _ | refine bsplit_mk (fun _ => ?_) (fun _ => ?_))
    all_goals first
      | exact hQ _ rfl
      | (exfalso; simp only [decide_eq_true_eq, rows_len] at *; omega)
      | trace_state
  | cons p r ih =>
    intro d h1 hf
    have hlen : d.length < l.length := by rw [h1]; simp
    have hx : (rows l)[((d.length : Nat) : Int).toNat]? = some (.agg (rowC p)) := Row.aggs_at (by rw [Int.toNat_natCast, h1]; simp)
    have hf : at_ l s 0 = if p.1 = s then ((d.length : Nat) : Int) else at_ r s (d.length + 1) := hf
    have yes := fun h : p.1 = s => hf.trans (if_pos h)
    have nx := fun h : ¬ p.1 = s => ih (d ++ [p]) (by simp [h1]) (by rw [hf, if_neg h]; simp)
    have hw : T.v (.int .i64 (IntKind.wrap .i64 ((d.length : Int) + 1))) = int (d ++ [p]).length := congrArg int (by rw [wrap_i64 (by omega) (by omega)]; simp)
    refine run_sound (⟨fun | 4, 3 => .res (.agg (rowC p)) | 3, 1 => .res (int (d ++ [p]).length) | _, _ => .no, [((2, 2), ([1, 2, 5], 1))], fun  | _ => none⟩) 400 (B := b = b ∧ bsplit (decide ((↑(List.length d) : Int) < (↑(List.length (rows l)) : Int))) (b = b ∧ (0 : Int) ≤ (↑(List.length d) : Int) ∧ (rows l)[Int.toNat (↑(List.length d) : Int)]? = some (T.agg [T.v (Value.int IntKind.u32 (↑(Prod.fst p) : Int)), T.v (Value.int IntKind.u32 (↑(Cl.q (Prod.snd p)) : Int)), T.v (Value.bool (Cl.o (Prod.snd p))), T.v (Value.int IntKind.i64 (↑(Cl.e (Prod.snd p)) : Int)), T.v (Value.bool (Cl.h (Prod.snd p))), T.v (Value.string (ByteArray.mk (List.toArray (Cl.x (Prod.snd p)))))]) ∧ bsplit ((↑(Prod.fst p) : Int) == (↑s : Int)) (Q (T.v (Value.int IntKind.i64 (↑(List.length d) : Int))) [] fun x => none) (T.v (Value.int IntKind.i64 (IntKind.wrap IntKind.i64 ((↑(List.length d) : Int) + (1 : Int)))) = T.v (Value.int IntKind.i64 (↑(List.length (d ++ [p])) : Int)) ∧ TWk Try.prog Γ (fin Try.prog Try.f32 [] Q) [It.code (sub (bd Try.f32) [(1 : Nat), (0 : Nat), (1 : Nat), (0 : Nat)]), It.blk (0 : Nat), It.code (sub (bd Try.f32) [(1 : Nat), (1 : Nat)])] { fr := [T.und, T.v (Value.int IntKind.u32 (↑s : Int)), T.ptr (0 : Nat) b (0 : Nat), T.und, T.und, T.v (Value.int IntKind.i64 (↑(List.length (d ++ [p])) : Int)), T.und, T.und, T.und, T.und, T.und, T.und, T.und, T.und, T.und, T.und, T.und, T.und, T.und, T.und, T.und, T.und], ob := [(b, Ob.cells [T.v (Value.int IntKind.i64 (↑lf : Int)), T.sl (6 : Nat) (rows l)])], gl := fun x => none })) (Q (T.v (Value.int IntKind.i64 (-1 : Int))) [] fun x => none)) (by kernel_rfl) ?_
    repeat' (first | exact rfl | exact Nat.le_of_ble_eq_true rfl | refine And.intro ?_ ?_ | intro _ | refine bsplit_mk (fun _ => ?_) (fun _ => ?_))
    all_goals first
      | exact hw
      | exact hx
      | exact Int.natCast_nonneg _
      | exact nx (eqF ‹_›)
      | exact hQ _ (congrArg int (yes (eqT ‹_›)).symm)
      | (exfalso; simp only [decide_eq_false_iff_not, rows_len] at *; omega)
      | trace_state
theorem rat_any (lf : Nat) (l : List (Nat × Cl)) (hl : l.length ≤ 1000) (s : Nat) (Q : T → Obs → Glb → Prop) (hQ : ∀ x, x = int (at_ l s 0) → Q x [] none_) : TCalls Try.prog 32 [.agg (rtC lf l), u32 s] [] none_ Q := by
  refine TCalls.of Try.func32 rfl (CanCall.of Try.func32 rfl (by decide)) [] fun Γ => ?_
  refine run_sound (⟨fun _ _ => .no, [((2, 2), ([1, 2, 5], 1))], fun _ => none⟩) 400 (B := ∀ (b : Nat), TWk Try.prog Γ (fin Try.prog Try.f32 [] Q) [It.code (sub (bd Try.f32) [(1 : Nat), (0 : Nat), (1 : Nat), (0 : Nat)]), It.blk (0 : Nat), It.code (sub (bd Try.f32) [(1 : Nat), (1 : Nat)])] { fr := [T.und, T.v (Value.int IntKind.u32 (↑s : Int)), T.ptr (0 : Nat) b (0 : Nat), T.und, T.und, T.v (Value.int IntKind.i64 (0 : Int)), T.und, T.und, T.und, T.und, T.und, T.und, T.und, T.und, T.und, T.und, T.und, T.und, T.und, T.und, T.und, T.und], ob := [(b, Ob.cells [T.v (Value.int IntKind.i64 (↑lf : Int)), T.sl (6 : Nat) (rows l)])], gl := fun x => none }) (by kernel_rfl) ?_
  repeat' (first | exact rfl | exact Nat.le_of_ble_eq_true rfl | refine And.intro ?_ ?_ | intro _ | refine bsplit_mk (fun _ => ?_) (fun _ => ?_))
  exact rat_loop Γ _ lf l hl s Q hQ l [] rfl rfl
theorem rat_post (lf : Nat) (l : List (Nat × Cl)) (hl : l.length ≤ 1000) (s : Nat) : TCalls Try.prog 32 [.agg (rtC lf l), u32 s] [] none_ (callPost (told (int (at_ l s 0)) [] [])) := rat_any lf l hl s _ fun _ h => told_post h
theorem rput_new (lf : Nat) (l : List (Nat × Cl)) (hl : l.length ≤ 1000) (p : Nat × Cl) (hn : Ses.look l p.1 = none) (Q : T → Obs → Glb → Prop) (hQ : ∀ x, x = .agg (rtC lf (l ++ [p])) → Q x [] none_) : TCalls Try.prog 50 [.agg (rtC lf l), .agg (rowC p)] [] none_ Q := by
  have ha := rat_post lf l hl p.1
  rw [Ses.at_none l p.1 0 hn] at ha
  have hs : rows (l ++ [p]) = rows l ++ [.agg (rowC p)] := Row.aggs_snoc l p
  have hln := rows_len l
  refine TCalls.of Try.func50 rfl (CanCall.of Try.func50 rfl (by decide)) [] fun Γ => ?_
  refine run_sound (⟨fun | 2, 3 => told (int (-1)) [] [] | _, _ => .no, [], fun  | _ => none⟩) 400 (B := ∀ (b b_1 b_2 : Nat), (0 : Nat) < nat_lit 6 ∧ ∀ (x : Value), b = b ∧ (x = x ∧ (0 : Nat) = (0 : Nat)) ∧ Fits ((0 : Nat) + List.length (rows l)) (nat_lit 48) ∧ ∀ (x : Value), b = b ∧ b_1 = b_1 ∧ TCalls Try.prog (32 : Nat) [T.agg [T.v (Value.int IntKind.i64 (↑lf : Int)), T.sl (6 : Nat) (rows l)], T.v (Value.int IntKind.u32 (↑(Prod.fst p) : Int))] [] (fun x => none) (callPost (Hint.call false Unit (fun x => True) [] false (fun x => int (-1 : Int)) (fun x => []) fun x => none_)) ∧ ∀ (a : Unit), True → b_1 = b_1 ∧ (x = x ∧ List.length ([] ++ rows l) = List.length (rows l)) ∧ Fits (List.length (rows l) + (1 : Nat)) (nat_lit 48) ∧ ∀ (x : Value), ((1 : Nat) = nat_lit 1 ∧ List.all [T.slx (6 : Nat) (3 : Nat) (rows l ++ [T.agg [T.v (Value.int IntKind.u32 (↑(Prod.fst p) : Int)), T.v (Value.int IntKind.u32 (↑(Cl.q (Prod.snd p)) : Int)), T.v (Value.bool (Cl.o (Prod.snd p))), T.v (Value.int IntKind.i64 (↑(Cl.e (Prod.snd p)) : Int)), T.v (Value.bool (Cl.h (Prod.snd p))), T.v (Value.string (ByteArray.mk (List.toArray (Cl.x (Prod.snd p)))))]]) x] T.one = true) ∧ b = b ∧ (1 : Nat) + nat_lit 1 ≤ (2 : Nat) ∧ b = b ∧ ((2 : Nat) = nat_lit 2 ∧ List.all [T.v (Value.int IntKind.i64 (↑lf : Int)), T.slx (6 : Nat) (3 : Nat) (rows l ++ [T.agg [T.v (Value.int IntKind.u32 (↑(Prod.fst p) : Int)), T.v (Value.int IntKind.u32 (↑(Cl.q (Prod.snd p)) : Int)), T.v (Value.bool (Cl.o (Prod.snd p))), T.v (Value.int IntKind.i64 (↑(Cl.e (Prod.snd p)) : Int)), T.v (Value.bool (Cl.h (Prod.snd p))), T.v (Value.string (ByteArray.mk (List.toArray (Cl.x (Prod.snd p)))))]]) x] T.one = true) ∧ b_2 = b_2 ∧ (0 : Nat) + nat_lit 2 ≤ (2 : Nat) ∧ b_2 = b_2 ∧ Q (T.agg [T.v (Value.int IntKind.i64 (↑lf : Int)), T.sl (6 : Nat) (rows l ++ [T.agg [T.v (Value.int IntKind.u32 (↑(Prod.fst p) : Int)), T.v (Value.int IntKind.u32 (↑(Cl.q (Prod.snd p)) : Int)), T.v (Value.bool (Cl.o (Prod.snd p))), T.v (Value.int IntKind.i64 (↑(Cl.e (Prod.snd p)) : Int)), T.v (Value.bool (Cl.h (Prod.snd p))), T.v (Value.string (ByteArray.mk (List.toArray (Cl.x (Prod.snd p)))))]])]) [] fun x => none) (by kernel_rfl) ?_
  repeat' (first | exact rfl | exact Nat.le_of_ble_eq_true rfl | refine And.intro ?_ ?_ | intro _ | refine bsplit_mk (fun _ => ?_) (fun _ => ?_))
  all_goals first
    | exact ha
    | (rw [rtC, hs] at hQ; exact hQ _ rfl)
    | (rw [hln]; simp [maxLen]; omega)
    | trace_state
theorem rput6 (Γ : Ctx) (b0 b1 b2 lf : Nat) (l l' : List (Nat × Cl)) (p : Nat × Cl) (Q : T → Obs → Glb → Prop) (hQ : ∀ x, x = .agg (rtC lf l') → Q x [] none_) :
    TWk Try.prog Γ (fin Try.prog Try.f50 [] Q) [.code (sub (bd Try.f50) [1, 1, 1])] ⟨frame 28 [(2, .ptr 0 b0 0), (4, .ptr 2 b2 0), (5, .sl 6 (rows l'))], [(b0, .cells (rtC lf l)), (b1, .cells (rowC p)), (b2, .cells [int 0, .v nilS]), (0, .gone)], none_⟩ := by
  refine run_sound (⟨fun _ _ => .no, [], fun _ => none⟩) 400 (B := ((1 : Nat) = nat_lit 1 ∧ List.all [T.sl (6 : Nat) (rows l')] T.one = true) ∧ b0 = b0 ∧ (1 : Nat) + nat_lit 1 ≤ (2 : Nat) ∧ b0 = b0 ∧ ((2 : Nat) = nat_lit 2 ∧ List.all [T.v (Value.int IntKind.i64 (↑lf : Int)), T.sl (6 : Nat) (rows l')] T.one = true) ∧ b2 = b2 ∧ (0 : Nat) + nat_lit 2 ≤ (2 : Nat) ∧ b2 = b2 ∧ Q (T.agg [T.v (Value.int IntKind.i64 (↑lf : Int)), T.sl (6 : Nat) (rows l')]) [] fun x => none) (by kernel_rfl) ?_
  repeat' (first | exact rfl | exact Nat.le_of_ble_eq_true rfl | refine And.intro ?_ ?_ | intro _ | refine bsplit_mk (fun _ => ?_) (fun _ => ?_))
  all_goals first
    | exact hQ _ rfl
    | trace_state
theorem rput_fin (Γ : Ctx) (b0 b1 b2 g n cap lf : Nat) (l l' : List (Nat × Cl)) (cs R : List T) (p : Nat × Cl) (he : cs = Row.flat rowC l' ++ R) (hn : n = l'.length) (Q : T → Obs → Glb → Prop) (hQ : ∀ x, x = .agg (rtC lf l') → Q x [] none_) :
    TWk Try.prog Γ (fin Try.prog Try.f50 [] Q) [.code (sub (bd Try.f50) [1, 1, 1])] ⟨frame 28 [(2, .ptr 0 b0 0), (4, .ptr 2 b2 0), (5, .sa 3 g 0 n cap)], [(b0, .cells (rtC lf l)), (b1, .cells (rowC p)), (b2, .cells [int 0, .v nilS]), (g, .cells cs)], none_⟩ :=
  TWk.impM (rput6 Γ b0 b1 b2 lf l l' p Q hQ) (ImpM.slot (i := 3) (b := g) true 6 5 (rows l') rfl rfl (fun h => by cases h) (Row.fz_len rowC_len he hn) (Row.fz_one rowC_len rowC_one he hn) (Row.fz_es rowC_len he hn))
theorem row_set (l : List (Nat × Cl)) (i : Nat) (hi : i < l.length) (p : Nat × Cl) (R : List T) : (Row.flat rowC l ++ R).take (0 + (i : Int).toNat * 6) ++ rowC p ++ (Row.flat rowC l ++ R).drop (0 + (i : Int).toNat * 6 + 6) = Row.flat rowC (l.set i p) ++ R := by
  rw [Nat.zero_add, Int.toNat_natCast]; exact Row.set_row rowC_len l i hi p R
theorem row_fit (l : List (Nat × Cl)) (i : Nat) (hi : i < l.length) (R : List T) : 0 + (i : Int).toNat * 6 + 6 ≤ (Row.flat rowC l ++ R).length := by
  rw [Nat.zero_add, Int.toNat_natCast]; exact Row.fit rowC_len l i hi R
theorem rput_old (lf : Nat) (l : List (Nat × Cl)) (hl : l.length ≤ 1000) (p : Nat × Cl) (i : Nat) (hi : i < l.length) (ha : at_ l p.1 0 = (i : Nat)) (Q : T → Obs → Glb → Prop) (hQ : ∀ x, x = .agg (rtC lf (l.set i p)) → Q x [] none_) : TCalls Try.prog 50 [.agg (rtC lf l), .agg (rowC p)] [] none_ Q := by
  have hp := rat_post lf l hl p.1
  rw [ha] at hp
  have hln := rows_len l
  have hfl : (rows l).flatMap elCells = Row.flat rowC l := Row.aggs_flat l
  refine TCalls.of Try.func50 rfl (CanCall.of Try.func50 rfl (by decide)) [] fun Γ => ?_
  refine run_sound (⟨fun | 1, 0 => .glob | 2, 3 => told (int i) [] [] | _, _ => .no, [((0, 6), ([2, 4, 5], 4))], fun  | _ => none⟩) 400 (B := ∀ (b b_1 b_2 : Nat), b = b ∧ (List.length (rows l) = (0 : Nat) → b = b ∧ b_1 = b_1 ∧ TCalls Try.prog (32 : Nat) [T.agg [T.v (Value.int IntKind.i64 (↑lf : Int)), T.sl (6 : Nat) (rows l)], T.v (Value.int IntKind.u32 (↑(Prod.fst p) : Int))] [] (fun x => none) (callPost (Hint.call false Unit (fun x => True) [] false (fun x => int (↑i : Int)) (fun x => []) fun x => none_)) ∧ ∀ (a : Unit), True → b_1 = b_1 ∧ False) ∧ (List.length (rows l) ≠ (0 : Nat) → Fits (List.length (rows l)) (nat_lit 48) ∧ ∀ (g cap : Nat), List.length (rows l) ≤ cap → cap ≤ (9223372036854775807 : Nat) → b = b ∧ b_1 = b_1 ∧ TCalls Try.prog (32 : Nat) [T.agg [T.v (Value.int IntKind.i64 (↑lf : Int)), T.sl (6 : Nat) (rows l)], T.v (Value.int IntKind.u32 (↑(Prod.fst p) : Int))] [] (fun x => none) (callPost (Hint.call false Unit (fun x => True) [] false (fun x => int (↑i : Int)) (fun x => []) fun x => none_)) ∧ ∀ (a : Unit), True → b_1 = b_1 ∧ ((0 : Int) ≤ (↑i : Int) ∧ (↑i : Int) < (↑(List.length (rows l)) : Int)) ∧ ((6 : Nat) = nat_lit 6 ∧ List.all [T.v (Value.int IntKind.u32 (↑(Prod.fst p) : Int)), T.v (Value.int IntKind.u32 (↑(Cl.q (Prod.snd p)) : Int)), T.v (Value.bool (Cl.o (Prod.snd p))), T.v (Value.int IntKind.i64 (↑(Cl.e (Prod.snd p)) : Int)), T.v (Value.bool (Cl.h (Prod.snd p))), T.v (Value.string (ByteArray.mk (List.toArray (Cl.x (Prod.snd p)))))] T.one = true) ∧ g = g ∧ (0 : Nat) + Int.toNat (↑i : Int) * nat_lit 6 + nat_lit 6 ≤ List.length (List.flatMap elCells (rows l) ++ List.replicate ((cap - List.length (rows l)) * nat_lit 6) T.und) ∧ TWk Try.prog Γ (fin Try.prog Try.f50 [] Q) [It.code (sub (bd Try.f50) [(1 : Nat), (1 : Nat), (1 : Nat)])] { fr := [T.und, T.und, T.ptr (0 : Nat) b (0 : Nat), T.und, T.ptr (2 : Nat) b_2 (0 : Nat), T.sa (3 : Nat) g (0 : Nat) (List.length (rows l)) cap, T.und, T.und, T.und, T.und, T.und, T.und, T.und, T.und, T.und, T.und, T.und, T.und, T.und, T.und, T.und, T.und, T.und, T.und, T.und, T.und, T.und, T.und], ob := [(b, Ob.cells [T.v (Value.int IntKind.i64 (↑lf : Int)), T.sl (6 : Nat) (rows l)]), (b_1, Ob.cells [T.v (Value.int IntKind.u32 (↑(Prod.fst p) : Int)), T.v (Value.int IntKind.u32 (↑(Cl.q (Prod.snd p)) : Int)), T.v (Value.bool (Cl.o (Prod.snd p))), T.v (Value.int IntKind.i64 (↑(Cl.e (Prod.snd p)) : Int)), T.v (Value.bool (Cl.h (Prod.snd p))), T.v (Value.string (ByteArray.mk (List.toArray (Cl.x (Prod.snd p)))))]), (b_2, Ob.cells [T.v (Value.int IntKind.i64 (0 : Int)), T.v (Value.slice none (0 : Nat) (0 : Nat))]), (g, Ob.cells (List.take ((0 : Nat) + Int.toNat (↑i : Int) * nat_lit 6) (List.flatMap elCells (rows l) ++ List.replicate ((cap - List.length (rows l)) * nat_lit 6) T.und) ++ [T.v (Value.int IntKind.u32 (↑(Prod.fst p) : Int)), T.v (Value.int IntKind.u32 (↑(Cl.q (Prod.snd p)) : Int)), T.v (Value.bool (Cl.o (Prod.snd p))), T.v (Value.int IntKind.i64 (↑(Cl.e (Prod.snd p)) : Int)), T.v (Value.bool (Cl.h (Prod.snd p))), T.v (Value.string (ByteArray.mk (List.toArray (Cl.x (Prod.snd p)))))] ++ List.drop ((0 : Nat) + Int.toNat (↑i : Int) * nat_lit 6 + (6 : Nat)) (List.flatMap elCells (rows l) ++ List.replicate ((cap - List.length (rows l)) * nat_lit 6) T.und)))], gl := fun x => none })) (by kernel_rfl) ?_
  rw [hln, hfl]
  repeat' (first | exact rfl | exact Nat.le_of_ble_eq_true rfl | refine And.intro ?_ ?_ | intro _ | refine bsplit_mk (fun _ => ?_) (fun _ => ?_))
  all_goals first
    | exact hp
    | exact Int.natCast_nonneg _
    | exact Int.ofNat_lt.2 hi
    | exact row_fit l i hi _
    | exact rput_fin Γ _ _ _ _ _ _ lf l (l.set i p) _ _ p (row_set l i hi p _) (List.length_set).symm Q hQ
    | (exfalso; omega)
    | (simp [maxLen]; omega)
    | trace_state
theorem rput_any (lf : Nat) (l : List (Nat × Cl)) (hl : l.length ≤ 1000) (p : Nat × Cl) (Q : T → Obs → Glb → Prop) (hQ : ∀ x, x = .agg (rtC lf (put l p.1 p.2)) → Q x [] none_) : TCalls Try.prog 50 [.agg (rtC lf l), .agg (rowC p)] [] none_ Q := by
  cases h : Ses.look l p.1 with
  | none => exact rput_new lf l hl p h Q (by rw [Ses.put_new l p.1 p.2 h] at hQ; exact hQ)
  | some c =>
    obtain ⟨i, h1, _, h3, h4⟩ := Ses.at_some l p.1 0 c h
    exact rput_old lf l hl p i h1 (by rw [h3, Nat.zero_add]) Q (by rw [h4] at hQ; exact hQ)
/-! the next life -/
theorem rlive10 (Γ : Ctx) (b0 b1 lf : Nat) (l l' : List (Nat × Cl)) (Q : T → Obs → Glb → Prop) (hQ : ∀ x, x = .tup [.agg (rtC lf l'), int 0] → Q x [] none_) :
    TWk Try.prog Γ (fin Try.prog Try.f30 [] Q) [.code (sub (bd Try.f30) [1, 1, 1, 1, 1])] ⟨frame 46 [(1, .ptr 0 b0 0), (2, .ptr 1 b1 0), (4, .sl 6 (rows l'))], [(b0, .cells (rtC lf l)), (b1, .cells [int 0, .v nilS]), (0, .gone)], none_⟩ := by
  refine run_sound (⟨fun  | _, _ => .no, [], fun | 9 => some ⟨[], [14], .take true [0,1,2,3,4,5,6,7,8,9,10,11,12,13] (.one 14 .done)⟩ | _ => none⟩) 400 (B := ((1 : Nat) = nat_lit 1 ∧ List.all [T.sl (6 : Nat) (rows l')] T.one = true) ∧ b0 = b0 ∧ (1 : Nat) + nat_lit 1 ≤ (2 : Nat) ∧ b0 = b0 ∧ ((2 : Nat) = nat_lit 2 ∧ List.all [T.v (Value.int IntKind.i64 (↑lf : Int)), T.sl (6 : Nat) (rows l')] T.one = true) ∧ b1 = b1 ∧ (0 : Nat) + nat_lit 2 ≤ (2 : Nat) ∧ b1 = b1 ∧ Q (T.tup [T.agg [T.v (Value.int IntKind.i64 (↑lf : Int)), T.sl (6 : Nat) (rows l')], T.v (Value.int IntKind.i64 (0 : Int))]) [] fun x => none) (by kernel_rfl) ?_
  repeat' (first | exact rfl | exact Nat.le_of_ble_eq_true rfl | refine And.intro ?_ ?_ | intro _ | refine bsplit_mk (fun _ => ?_) (fun _ => ?_))
  all_goals first
    | exact hQ _ rfl
    | trace_state
theorem rlive_fin (Γ : Ctx) (b0 b1 g n cap lf : Nat) (l l' : List (Nat × Cl)) (cs R : List T) (he : cs = Row.flat rowC l' ++ R) (hn : n = l'.length) (Q : T → Obs → Glb → Prop) (hQ : ∀ x, x = .tup [.agg (rtC lf l'), int 0] → Q x [] none_) :
    TWk Try.prog Γ (fin Try.prog Try.f30 [] Q) [.code (sub (bd Try.f30) [1, 1, 1, 1, 1])] ⟨frame 46 [(1, .ptr 0 b0 0), (2, .ptr 1 b1 0), (4, .sa 2 g 0 n cap)], [(b0, .cells (rtC lf l)), (b1, .cells [int 0, .v nilS]), (g, .cells cs)], none_⟩ :=
  TWk.impM (rlive10 Γ b0 b1 lf l l' Q hQ) (ImpM.slot (i := 2) (b := g) true 6 4 (rows l') rfl rfl (fun h => by cases h) (Row.fz_len rowC_len he hn) (Row.fz_one rowC_len rowC_one he hn) (Row.fz_es rowC_len he hn))
theorem row_at (l : List (Nat × Cl)) (i : Nat) (hi : i < l.length) (R : List T) : (Row.flat rowC l ++ R).drop (0 + (i : Int).toNat * 6) = rowC l[i] ++ (Row.flat rowC (l.drop (i + 1)) ++ R) := by
  rw [Nat.zero_add, Int.toNat_natCast]; exact Row.drop_row rowC_len l i hi R
theorem rlive_loop (Γ : Ctx) (b0 b1 g cap lf : Nat) (l : List (Nat × Cl)) (hl : l.length ≤ 1000) (R : List T) (Q : T → Obs → Glb → Prop) (hQ : ∀ x, x = .tup [.agg (rtC lf (lose l)), int 0] → Q x [] none_) : ∀ (r d : List (Nat × Cl)), l = d ++ r →
    TWk Try.prog Γ (fin Try.prog Try.f30 [] Q) [.code (sub (bd Try.f30) [1, 1, 1, 1, 0, 1, 0]), .blk 0, .code (sub (bd Try.f30) [1, 1, 1, 1, 1])] ⟨frame 46 [(1, .ptr 0 b0 0), (2, .ptr 1 b1 0), (4, .sa 2 g 0 l.length cap), (5, int d.length)], [(b0, .cells (rtC lf l)), (b1, .cells [int 0, .v nilS]), (g, .cells (Row.flat rowC (lose d ++ r) ++ R))], none_⟩ := by
  intro r
  induction r with
  | nil =>
    intro d h1
    have e : d = l := by rw [h1]; simp
    subst e
    rw [List.append_nil]
    refine run_sound (⟨fun | 8, 4 => .res (bool false) | _, _ => .no, [((2, 6), ([1, 2, 4, 5], 3)), ((0, 10), ([1, 2, 4], 3))], fun | 9 => some ⟨[], [14], .take true [0,1,2,3,4,5,6,7,8,9,10,11,12,13] (.one 14 .done)⟩ | _ => none⟩) 400 (B := bsplit (decide ((↑(List.length d) : Int) < (↑(List.length d) : Int))) (((0 : Int) ≤ (↑(List.length d) : Int) ∧ (↑(List.length d) : Int) < (↑(List.length d) : Int)) ∧ g = g ∧ (List.drop ((0 : Nat) + Int.toNat (↑(List.length d) : Int) * nat_lit 6 + nat_lit 2) (List.flatMap rowC (lose d) ++ R))[(0 : Nat)]? = some (T.v (Value.bool false)) ∧ TWk Try.prog Γ (fin Try.prog Try.f30 [] Q) [It.code (sub (bd Try.f30) [(1 : Nat), (1 : Nat), (1 : Nat), (1 : Nat), (0 : Nat), (1 : Nat), (0 : Nat)]), It.blk (0 : Nat), It.code (sub (bd Try.f30) [(1 : Nat), (1 : Nat), (1 : Nat), (1 : Nat), (1 : Nat)])] { fr := [T.und, T.ptr (0 : Nat) b0 (0 : Nat), T.ptr (1 : Nat) b1 (0 : Nat), T.und, T.sa (2 : Nat) g (0 : Nat) (List.length d) cap, T.v (Value.int IntKind.i64 (IntKind.wrap IntKind.i64 ((↑(List.length d) : Int) + (1 : Int)))), T.und, T.und, T.und, T.und, T.und, T.und, T.und, T.und, T.und, T.und, T.und, T.und, T.und, T.und, T.und, T.und, T.und, T.und, T.und, T.und, T.und, T.und, T.und, T.und, T.und, T.und, T.und, T.und, T.und, T.und, T.und, T.und, T.und, T.und, T.und, T.und, T.und, T.und, T.und, T.und], ob := [(b0, Ob.cells [T.v (Value.int IntKind.i64 (↑lf : Int)), T.sl (6 : Nat) (rows d)]), (b1, Ob.cells [T.v (Value.int IntKind.i64 (0 : Int)), T.v (Value.slice none (0 : Nat) (0 : Nat))]), (g, Ob.cells (List.flatMap rowC (lose d) ++ R))], gl := fun x => none }) (TWk Try.prog Γ (fin Try.prog Try.f30 [] Q) [It.code (sub (bd Try.f30) [(1 : Nat), (1 : Nat), (1 : Nat), (1 : Nat), (1 : Nat)])] { fr := [T.und, T.ptr (0 : Nat) b0 (0 : Nat), T.ptr (1 : Nat) b1 (0 : Nat), T.und, T.sa (2 : Nat) g (0 : Nat) (List.length d) cap, T.und, T.und, T.und, T.und, T.und, T.und, T.und, T.und, T.und, T.und, T.und, T.und, T.und, T.und, T.und, T.und, T.und, T.und, T.und, T.und, T.und, T.und, T.und, T.und, T.und, T.und, T.und, T.und, T.und, T.und, T.und, T.und, T.und, T.und, T.und, T.und, T.und, T.und, T.und, T.und, T.und], ob := [(b0, Ob.cells [T.v (Value.int IntKind.i64 (↑lf : Int)), T.sl (6 : Nat) (rows d)]), (b1, Ob.cells [T.v (Value.int IntKind.i64 (0 : Int)), T.v (Value.slice none (0 : Nat) (0 : Nat))]), (g, Ob.cells (List.flatMap rowC (lose d) ++ R))], gl := fun x => none })) (by kernel_rfl) ?_
    repeat' (first | exact rfl | exact Nat.le_of_ble_eq_true rfl | refine And.intro ?_ ?_ | intro _ | refine bsplit_mk (fun _ => ?_) (fun _ => ?_))
    all_goals first
      | (exfalso; simp only [decide_eq_true_eq] at *; omega)
      | exact rlive_fin Γ b0 b1 g _ cap lf d (lose d) _ R rfl (by unfold Ses.lose; rw [List.length_map]) Q hQ
      | (exfalso; simp only [decide_eq_true_eq] at *; omega)
      | trace_state
  | cons p r ih =>
    intro d h1
    have hlen : d.length < l.length := by rw [h1]; simp
    have hld : (lose d).length = d.length := by unfold Ses.lose; rw [List.length_map]
    have hi : d.length < (lose d ++ p :: r).length := by rw [List.length_append, hld]; simp
    have hg : (lose d ++ p :: r)[d.length] = p := by rw [List.getElem_append_right (by omega)]; simp [hld]
    have hc : ∀ (j : Nat) (t : T), (rowC p)[j]? = some t → ((Row.flat rowC (lose d ++ p :: r) ++ R).drop (0 + ((d.length : Nat) : Int).toNat * 6 + j))[0]? = some t := fun j t ht => by
      have hj : j < (rowC p).length := by rcases Nat.lt_or_ge j (rowC p).length with h | h; · exact h
                                          · rw [List.getElem?_eq_none h] at ht; cases ht
      rw [← List.drop_drop, row_at _ _ hi, hg, List.getElem?_drop]
      show (_ ++ _)[j]? = _
      rw [List.getElem?_append_left hj]; exact ht
    have hfit := row_fit (lose d ++ p :: r) d.length hi R
    have hset := row_set (lose d ++ p :: r) d.length hi (p.1, lost p.2) R
    have hs2 : (lose d ++ p :: r).set d.length (p.1, lost p.2) = lose (d ++ [p]) ++ r := by
      rw [List.set_append_right _ _ (by omega), hld, Nat.sub_self]
      unfold Ses.lose; rw [List.map_append]; simp
    rw [hs2] at hset
    have hno : p.2.o = false → lose d ++ p :: r = lose (d ++ [p]) ++ r := fun ho => by
      unfold Ses.lose
      rw [List.map_append, List.append_assoc]
      show _ = _ ++ ((p.1, lost p.2) :: r)
      rw [show lost p.2 = p.2 from by unfold Ses.lost; rw [ho]; rfl]
    have hyes : p.2.o = true → rowC (p.1, lost p.2) = [u32 p.1, u32 p.2.q, bool false, int 13, bool false, str []] := fun ho => by unfold Ses.lost; rw [ho]; rfl
    have nx := ih (d ++ [p]) (by rw [h1]; simp)
    have nx1 := fun ho : p.2.o = false => (by rw [← hno ho] at nx; exact nx : TWk Try.prog Γ (fin Try.prog Try.f30 [] Q) [.code (sub (bd Try.f30) [1, 1, 1, 1, 0, 1, 0]), .blk 0, .code (sub (bd Try.f30) [1, 1, 1, 1, 1])] ⟨frame 46 [(1, .ptr 0 b0 0), (2, .ptr 1 b1 0), (4, .sa 2 g 0 l.length cap), (5, int (d ++ [p]).length)], [(b0, .cells (rtC lf l)), (b1, .cells [int 0, .v nilS]), (g, .cells (Row.flat rowC (lose d ++ p :: r) ++ R))], none_⟩)
    have nx2 := fun ho : p.2.o = true => (by rw [← hset, hyes ho] at nx; exact nx : TWk Try.prog Γ (fin Try.prog Try.f30 [] Q) [.code (sub (bd Try.f30) [1, 1, 1, 1, 0, 1, 0]), .blk 0, .code (sub (bd Try.f30) [1, 1, 1, 1, 1])] ⟨frame 46 [(1, .ptr 0 b0 0), (2, .ptr 1 b1 0), (4, .sa 2 g 0 l.length cap), (5, int (d ++ [p]).length)], [(b0, .cells (rtC lf l)), (b1, .cells [int 0, .v nilS]), (g, .cells (List.take (0 + Int.toNat ((d.length : Nat) : Int) * 6) (Row.flat rowC (lose d ++ p :: r) ++ R) ++ [u32 p.1, u32 p.2.q, bool false, int 13, bool false, str []] ++ List.drop (0 + Int.toNat ((d.length : Nat) : Int) * 6 + 6) (Row.flat rowC (lose d ++ p :: r) ++ R)))], none_⟩)
    clear nx hset hs2 hyes hno ih hQ hg hi
    generalize Row.flat rowC (lose d ++ p :: r) ++ R = cs at *
    have hw : T.v (.int .i64 (IntKind.wrap .i64 ((d.length : Int) + 1))) = int (d ++ [p]).length := congrArg int (by rw [wrap_i64 (by omega) (by omega)]; simp)
    generalize (d ++ [p]).length = d1 at *
    have hln := rows_len l
    refine run_sound (⟨fun | 8, 4 => .res (bool p.2.o) | 9, 6 => .res (u32 p.1) | 9, 11 => .res (u32 p.2.q) | 7, 1 => .res (int d1) | _, _ => .no, [((2, 6), ([1, 2, 4, 5], 3)), ((0, 10), ([1, 2, 4], 3))], fun | 9 => some ⟨[2], [14], .take true [0,1,2,3,4,5,6,7,8,9,10,11,12,13] (.one 14 .done)⟩ | _ => none⟩) 400 (B := bsplit (decide ((↑(List.length d) : Int) < (↑(List.length l) : Int))) (((0 : Int) ≤ (↑(List.length d) : Int) ∧ (↑(List.length d) : Int) < (↑(List.length l) : Int)) ∧ g = g ∧ (List.drop ((0 : Nat) + Int.toNat (↑(List.length d) : Int) * nat_lit 6 + nat_lit 2) cs)[(0 : Nat)]? = some (T.v (Value.bool (Cl.o (Prod.snd p)))) ∧ bsplit (Cl.o (Prod.snd p)) (((0 : Int) ≤ (↑(List.length d) : Int) ∧ (↑(List.length d) : Int) < (↑(List.length l) : Int)) ∧ g = g ∧ (List.drop ((0 : Nat) + Int.toNat (↑(List.length d) : Int) * nat_lit 6 + nat_lit 0) cs)[(0 : Nat)]? = some (T.v (Value.int IntKind.u32 (↑(Prod.fst p) : Int))) ∧ ((0 : Int) ≤ (↑(List.length d) : Int) ∧ (↑(List.length d) : Int) < (↑(List.length l) : Int)) ∧ g = g ∧ (List.drop ((0 : Nat) + Int.toNat (↑(List.length d) : Int) * nat_lit 6 + nat_lit 1) cs)[(0 : Nat)]? = some (T.v (Value.int IntKind.u32 (↑(Cl.q (Prod.snd p)) : Int))) ∧ ((0 : Int) ≤ (↑(List.length d) : Int) ∧ (↑(List.length d) : Int) < (↑(List.length l) : Int)) ∧ ((6 : Nat) = nat_lit 6 ∧ List.all [T.v (Value.int IntKind.u32 (↑(Prod.fst p) : Int)), T.v (Value.int IntKind.u32 (↑(Cl.q (Prod.snd p)) : Int)), T.v (Value.bool false), T.v (Value.int IntKind.i64 (13 : Int)), T.v (Value.bool false), T.v (Value.string (ByteArray.mk (#[])))] T.one = true) ∧ g = g ∧ (0 : Nat) + Int.toNat (↑(List.length d) : Int) * nat_lit 6 + nat_lit 6 ≤ List.length cs ∧ T.v (Value.int IntKind.i64 (IntKind.wrap IntKind.i64 ((↑(List.length d) : Int) + (1 : Int)))) = T.v (Value.int IntKind.i64 (↑d1 : Int)) ∧ TWk Try.prog Γ (fin Try.prog Try.f30 [] Q) [It.code (sub (bd Try.f30) [(1 : Nat), (1 : Nat), (1 : Nat), (1 : Nat), (0 : Nat), (1 : Nat), (0 : Nat)]), It.blk (0 : Nat), It.code (sub (bd Try.f30) [(1 : Nat), (1 : Nat), (1 : Nat), (1 : Nat), (1 : Nat)])] { fr := [T.und, T.ptr (0 : Nat) b0 (0 : Nat), T.ptr (1 : Nat) b1 (0 : Nat), T.und, T.sa (2 : Nat) g (0 : Nat) (List.length l) cap, T.v (Value.int IntKind.i64 (↑d1 : Int)), T.und, T.und, T.und, T.und, T.und, T.und, T.und, T.und, T.und, T.und, T.und, T.und, T.und, T.und, T.und, T.und, T.und, T.und, T.und, T.und, T.und, T.und, T.und, T.und, T.und, T.und, T.und, T.und, T.und, T.und, T.und, T.und, T.und, T.und, T.und, T.und, T.und, T.und, T.und, T.und], ob := [(b0, Ob.cells [T.v (Value.int IntKind.i64 (↑lf : Int)), T.sl (6 : Nat) (rows l)]), (b1, Ob.cells [T.v (Value.int IntKind.i64 (0 : Int)), T.v (Value.slice none (0 : Nat) (0 : Nat))]), (g, Ob.cells (List.take ((0 : Nat) + Int.toNat (↑(List.length d) : Int) * nat_lit 6) cs ++ [T.v (Value.int IntKind.u32 (↑(Prod.fst p) : Int)), T.v (Value.int IntKind.u32 (↑(Cl.q (Prod.snd p)) : Int)), T.v (Value.bool false), T.v (Value.int IntKind.i64 (13 : Int)), T.v (Value.bool false), T.v (Value.string (ByteArray.mk (#[])))] ++ List.drop ((0 : Nat) + Int.toNat (↑(List.length d) : Int) * nat_lit 6 + (6 : Nat)) cs))], gl := fun x => none }) (T.v (Value.int IntKind.i64 (IntKind.wrap IntKind.i64 ((↑(List.length d) : Int) + (1 : Int)))) = T.v (Value.int IntKind.i64 (↑d1 : Int)) ∧ TWk Try.prog Γ (fin Try.prog Try.f30 [] Q) [It.code (sub (bd Try.f30) [(1 : Nat), (1 : Nat), (1 : Nat), (1 : Nat), (0 : Nat), (1 : Nat), (0 : Nat)]), It.blk (0 : Nat), It.code (sub (bd Try.f30) [(1 : Nat), (1 : Nat), (1 : Nat), (1 : Nat), (1 : Nat)])] { fr := [T.und, T.ptr (0 : Nat) b0 (0 : Nat), T.ptr (1 : Nat) b1 (0 : Nat), T.und, T.sa (2 : Nat) g (0 : Nat) (List.length l) cap, T.v (Value.int IntKind.i64 (↑d1 : Int)), T.und, T.und, T.und, T.und, T.und, T.und, T.und, T.und, T.und, T.und, T.und, T.und, T.und, T.und, T.und, T.und, T.und, T.und, T.und, T.und, T.und, T.und, T.und, T.und, T.und, T.und, T.und, T.und, T.und, T.und, T.und, T.und, T.und, T.und, T.und, T.und, T.und, T.und, T.und, T.und], ob := [(b0, Ob.cells [T.v (Value.int IntKind.i64 (↑lf : Int)), T.sl (6 : Nat) (rows l)]), (b1, Ob.cells [T.v (Value.int IntKind.i64 (0 : Int)), T.v (Value.slice none (0 : Nat) (0 : Nat))]), (g, Ob.cells cs)], gl := fun x => none })) (TWk Try.prog Γ (fin Try.prog Try.f30 [] Q) [It.code (sub (bd Try.f30) [(1 : Nat), (1 : Nat), (1 : Nat), (1 : Nat), (1 : Nat)])] { fr := [T.und, T.ptr (0 : Nat) b0 (0 : Nat), T.ptr (1 : Nat) b1 (0 : Nat), T.und, T.sa (2 : Nat) g (0 : Nat) (List.length l) cap, T.und, T.und, T.und, T.und, T.und, T.und, T.und, T.und, T.und, T.und, T.und, T.und, T.und, T.und, T.und, T.und, T.und, T.und, T.und, T.und, T.und, T.und, T.und, T.und, T.und, T.und, T.und, T.und, T.und, T.und, T.und, T.und, T.und, T.und, T.und, T.und, T.und, T.und, T.und, T.und, T.und], ob := [(b0, Ob.cells [T.v (Value.int IntKind.i64 (↑lf : Int)), T.sl (6 : Nat) (rows l)]), (b1, Ob.cells [T.v (Value.int IntKind.i64 (0 : Int)), T.v (Value.slice none (0 : Nat) (0 : Nat))]), (g, Ob.cells cs)], gl := fun x => none })) (by kernel_rfl) ?_
    repeat' (first | exact rfl | exact Nat.le_of_ble_eq_true rfl | refine And.intro ?_ ?_ | intro _ | refine bsplit_mk (fun _ => ?_) (fun _ => ?_))
    all_goals first
      | exact hw
      | exact Int.natCast_nonneg _
      | exact Int.ofNat_lt.2 hlen
      | exact hfit
      | exact hc 0 _ rfl
      | exact hc 1 _ rfl
      | exact hc 2 _ rfl
      | exact nx1 ‹_›
      | exact nx2 ‹_›
      | (exfalso; simp only [decide_eq_false_iff_not] at *; omega)
      | trace_state
theorem rlive_empty (Γ : Ctx) (b0 b1 lf : Nat) (cl : T) (Q : T → Obs → Glb → Prop) (hQ : ∀ x, x = .tup [.agg (rtC lf []), int 0] → Q x [] none_) :
    TWk Try.prog Γ (fin Try.prog Try.f30 [] Q) [.code (sub (bd Try.f30) [1, 1, 1, 1, 0, 1, 0]), .blk 0, .code (sub (bd Try.f30) [1, 1, 1, 1, 1])] ⟨frame 46 [(1, .ptr 0 b0 0), (2, .ptr 1 b1 0), (4, .sl 6 []), (5, int 0)], [(b0, .cells [int lf, cl]), (b1, .cells [int 0, .v nilS])], none_⟩ := by
  refine run_sound (⟨fun  | _, _ => .no, [], fun | 9 => some ⟨[], [14], .take true [0,1,2,3,4,5,6,7,8,9,10,11,12,13] (.one 14 .done)⟩ | _ => none⟩) 400 (B := ((1 : Nat) = nat_lit 1 ∧ List.all [T.sl (6 : Nat) []] T.one = true) ∧ b0 = b0 ∧ (1 : Nat) + nat_lit 1 ≤ (2 : Nat) ∧ b0 = b0 ∧ ((2 : Nat) = nat_lit 2 ∧ List.all [T.v (Value.int IntKind.i64 (↑lf : Int)), T.sl (6 : Nat) []] T.one = true) ∧ b1 = b1 ∧ (0 : Nat) + nat_lit 2 ≤ (2 : Nat) ∧ b1 = b1 ∧ Q (T.tup [T.agg [T.v (Value.int IntKind.i64 (↑lf : Int)), T.sl (6 : Nat) []], T.v (Value.int IntKind.i64 (0 : Int))]) [] fun x => none) (by kernel_rfl) ?_
  repeat' (first | exact rfl | exact Nat.le_of_ble_eq_true rfl | refine And.intro ?_ ?_ | intro _ | refine bsplit_mk (fun _ => ?_) (fun _ => ?_))
  all_goals first
    | exact hQ _ rfl
    | trace_state
theorem rel_s0 {M : Pm} {k : Nat} {v : Value} (h : Rel M .s0 v) : Rel M (.sl k []) v := by
  simp only [Rel] at h
  obtain ⟨A, rfl⟩ := h
  simp only [Rel]
  exact ⟨A, 0, rfl, ⟨Nat.le_refl _, Nat.zero_le _, fun _ => ⟨rfl, rfl⟩, fun a _ h => absurd h (Nat.lt_irrefl _)⟩, (fun e he => by cases he), fun b o _ => by simp only [RelE]⟩
theorem rlive_any (lf : Nat) (h8 : lf < 200) (l : List (Nat × Cl)) (hl : l.length ≤ 1000) (Q : T → Obs → Glb → Prop) (hQ : ∀ x, x = .tup [.agg (rtC (lf + 1) (lose l)), int 0] → Q x [] none_) : TCalls Try.prog 30 [.agg (rtC lf l)] [] none_ Q := by
  have hln := rows_len l
  have hfl : (rows l).flatMap elCells = Row.flat rowC l := Row.aggs_flat l
  have hw : T.v (.int .i64 (IntKind.wrap .i64 ((lf : Int) + 1))) = int (lf + 1 : Nat) := congrArg int (by rw [wrap_i64 (by omega) (by omega)]; omega)
  have he : l.length = 0 → ∀ Γ b0 b1, TWk Try.prog Γ (fin Try.prog Try.f30 [] Q) [.code (sub (bd Try.f30) [1, 1, 1, 1, 0, 1, 0]), .blk 0, .code (sub (bd Try.f30) [1, 1, 1, 1, 1])] ⟨frame 46 [(1, .ptr 0 b0 0), (2, .ptr 1 b1 0), (4, .s0), (5, int 0)], [(b0, .cells [int (lf + 1 : Nat), .sl 6 (rows l)]), (b1, .cells [int 0, .v nilS])], none_⟩ := fun h Γ b0 b1 => by
    obtain rfl : l = [] := List.eq_nil_of_length_eq_zero h
    exact TWk.imp (rlive_empty Γ b0 b1 (lf + 1) _ Q hQ) (Imp.slotR (j := 4) rfl fun _ _ h => rel_s0 h)
  have lp := fun Γ b0 b1 g cap R => rlive_loop Γ b0 b1 g cap (lf + 1) l hl R Q hQ l [] rfl
  refine TCalls.of Try.func30 rfl (CanCall.of Try.func30 rfl (by decide)) [] fun Γ => ?_
  refine run_sound (⟨fun | 3, 2 => .res (int (lf + 1 : Nat)) | 4, 0 => .glob | _, _ => .no, [((2, 6), ([1, 2, 4, 5], 3))], fun | 9 => some ⟨[], [14], .take true [0,1,2,3,4,5,6,7,8,9,10,11,12,13] (.one 14 .done)⟩ | _ => none⟩) 400 (B := ∀ (b b_1 : Nat), b = b ∧ bsplit (decide ((↑lf : Int) ≥ (200 : Int))) (b = b ∧ ((2 : Nat) = nat_lit 2 ∧ List.all [T.v (Value.int IntKind.i64 (↑lf : Int)), T.sl (6 : Nat) (rows l)] T.one = true) ∧ b_1 = b_1 ∧ (0 : Nat) + nat_lit 2 ≤ (2 : Nat) ∧ b_1 = b_1 ∧ Q (T.tup [T.agg [T.v (Value.int IntKind.i64 (↑lf : Int)), T.sl (6 : Nat) (rows l)], T.v (Value.int IntKind.i64 (6 : Int))]) [] fun x => none) (b = b ∧ T.v (Value.int IntKind.i64 (IntKind.wrap IntKind.i64 ((↑lf : Int) + (1 : Int)))) = T.v (Value.int IntKind.i64 (↑(lf + (1 : Nat)) : Int)) ∧ ((1 : Nat) = nat_lit 1 ∧ List.all (List.map T.v (Array.toList #[Value.int IntKind.i64 (↑(lf + (1 : Nat)) : Int)])) T.one = true) ∧ b = b ∧ (0 : Nat) + nat_lit 1 ≤ (2 : Nat) ∧ b = b ∧ (List.length (rows l) = (0 : Nat) → TWk Try.prog Γ (fin Try.prog Try.f30 [] Q) [It.code (sub (bd Try.f30) [(1 : Nat), (1 : Nat), (1 : Nat), (1 : Nat), (0 : Nat), (1 : Nat), (0 : Nat)]), It.blk (0 : Nat), It.code (sub (bd Try.f30) [(1 : Nat), (1 : Nat), (1 : Nat), (1 : Nat), (1 : Nat)])] { fr := [T.und, T.ptr (0 : Nat) b (0 : Nat), T.ptr (1 : Nat) b_1 (0 : Nat), T.und, T.s0, T.v (Value.int IntKind.i64 (0 : Int)), T.und, T.und, T.und, T.und, T.und, T.und, T.und, T.und, T.und, T.und, T.und, T.und, T.und, T.und, T.und, T.und, T.und, T.und, T.und, T.und, T.und, T.und, T.und, T.und, T.und, T.und, T.und, T.und, T.und, T.und, T.und, T.und, T.und, T.und, T.und, T.und, T.und, T.und, T.und, T.und], ob := [(b, Ob.cells [T.v (Value.int IntKind.i64 (↑(lf + (1 : Nat)) : Int)), T.sl (6 : Nat) (rows l)]), (b_1, Ob.cells [T.v (Value.int IntKind.i64 (0 : Int)), T.v (Value.slice none (0 : Nat) (0 : Nat))])], gl := fun x => none }) ∧ (List.length (rows l) ≠ (0 : Nat) → Fits (List.length (rows l)) (nat_lit 48) ∧ ∀ (g cap : Nat), List.length (rows l) ≤ cap → cap ≤ (9223372036854775807 : Nat) → TWk Try.prog Γ (fin Try.prog Try.f30 [] Q) [It.code (sub (bd Try.f30) [(1 : Nat), (1 : Nat), (1 : Nat), (1 : Nat), (0 : Nat), (1 : Nat), (0 : Nat)]), It.blk (0 : Nat), It.code (sub (bd Try.f30) [(1 : Nat), (1 : Nat), (1 : Nat), (1 : Nat), (1 : Nat)])] { fr := [T.und, T.ptr (0 : Nat) b (0 : Nat), T.ptr (1 : Nat) b_1 (0 : Nat), T.und, T.sa (2 : Nat) g (0 : Nat) (List.length (rows l)) cap, T.v (Value.int IntKind.i64 (0 : Int)), T.und, T.und, T.und, T.und, T.und, T.und, T.und, T.und, T.und, T.und, T.und, T.und, T.und, T.und, T.und, T.und, T.und, T.und, T.und, T.und, T.und, T.und, T.und, T.und, T.und, T.und, T.und, T.und, T.und, T.und, T.und, T.und, T.und, T.und, T.und, T.und, T.und, T.und, T.und, T.und], ob := [(b, Ob.cells [T.v (Value.int IntKind.i64 (↑(lf + (1 : Nat)) : Int)), T.sl (6 : Nat) (rows l)]), (b_1, Ob.cells [T.v (Value.int IntKind.i64 (0 : Int)), T.v (Value.slice none (0 : Nat) (0 : Nat))]), (g, Ob.cells (List.flatMap elCells (rows l) ++ List.replicate ((cap - List.length (rows l)) * nat_lit 6) T.und))], gl := fun x => none }))) (by kernel_rfl) ?_
  rw [hln, hfl]
  repeat' (first | exact rfl | exact Nat.le_of_ble_eq_true rfl | refine And.intro ?_ ?_ | intro _ | refine bsplit_mk (fun _ => ?_) (fun _ => ?_))
  all_goals first
    | exact hw
    | exact he ‹_› _ _ _
    | exact lp _ _ _ _ _ _
    | (exfalso; simp only [decide_eq_true_eq] at *; omega)
    | (simp [maxLen]; omega)
    | trace_state
end X22
end Go.Proofs.Ytaepgceodcdnhaa.Vm
