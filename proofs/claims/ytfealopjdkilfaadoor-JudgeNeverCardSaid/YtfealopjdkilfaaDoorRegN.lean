/- Registers by the engine: numbers as texts, a value's number. -/
import Derived.Test.YtfealopjdkilfaaDoorStr
import Derived.Test.YtfealopjdkilfaaDoorVmC
import Derived.Test.YtfealopjdkilfaaDoorRow
import Derived.Test.YtfealopjdkilfaaDoorOpn
import Derived.Test.YtfealopjdkilfaaDoorReg1
import Derived.Test.YtfealopjdkilfaaDoorRegL
import Derived.FnData
namespace Go.Proofs.YtfealopjdkilfaaDoor.Vm
open Go Go.RowKit
set_option maxRecDepth 100000
theorem TCalls.oldG {P : Program} {f : FuncId} {ts : List T} {r : T} {ob : Obs} {gl : Glb} (can : CanCall P f)
    (h : ∀ (M : Pm) (w : World) (xs : Array Value), HRel M ob gl w → RelL M ts xs.toList → ∃ x, Rel M r x ∧ Calls P f xs w fun e w' => e = .returned x ∧ Below w.heap.size w w')
    (Q : T → Obs → Glb → Prop) (hQ : Q r ob gl) : TCalls P f ts ob gl Q := ⟨can, fun M w xs hp hx => by
  obtain ⟨x, hr, hc⟩ := h M w xs hp hx
  refine hc.mono fun e w' ⟨he, hb⟩ => ⟨x, r, M, ob, gl, he, hr, hp.still fun b hb' => hb.block b hb', ?_, hQ⟩
  exact ⟨Pm.le_refl _, fun b o v hv => .inl hv, Fr.of_below hb, fun b hb => .inl hb⟩⟩
theorem TCalls.oldE {P : Program} {f : FuncId} {ts : List T} {ob : Obs} {gl : Glb} {Q : T → Obs → Glb → Prop} (can : CanCall P f)
    (h : ∀ (M : Pm) (w : World) (xs : Array Value), HRel M ob gl w → RelL M ts xs.toList → Calls P f xs w fun e w' => ∃ x r, e = .returned x ∧ Rel M r x ∧ Below w.heap.size w w' ∧ Q r ob gl) : TCalls P f ts ob gl Q := ⟨can, fun M w xs hp hx => by
  refine (h M w xs hp hx).mono fun e w' ⟨x, r, he, hr, hb, hQ⟩ => ⟨x, r, M, ob, gl, he, hr, hp.still fun b hb' => hb.block b hb', ?_, hQ⟩
  exact ⟨Pm.le_refl _, fun b o v hv => .inl hv, Fr.of_below hb, fun b hb => .inl hb⟩⟩
namespace X4
open Go.Lib (itoa)
open Reg (In64 num?)
def tabC : Array Value := (Lib.pow10Tab.map fun z => Value.int .u64 z).toArray
/-- the variables of the library, as start-up laid them -/
structure Gs where
  t1 : TypeId
  t2 : TypeId
  t3 : TypeId
  f1 : Nat × Nat
  f2 : Nat × Nat
  f3 : Nat × Nat
  tp : TypeId
  tq : TypeId
  p : Value
  q : Value
def obsG (g : Gs) : Obs := [(0, .whole tabC g.t1 g.f1), (1, .whole #[.iface g.tp g.p] g.t2 g.f2), (2, .whole #[.iface g.tq g.q] g.t3 g.f3)]
theorem var_heap {P : Program} {w : World} {n : String} {g : Nat} {C : Array Value} {t : TypeId} {fz : Nat × Nat} (hg : P.globalNamed n = some g) (h : w.heap[g]? = some (.cells C t fz)) : w.var? P n = some C := by
  simp only [World.var?, hg, Option.bind_some, h]
theorem gT : Tryd.prog.globalNamed "internal/strconv.uint64pow10" = some 0 := by kernel_rfl
theorem gS : Tryd.prog.globalNamed "strconv.ErrSyntax" = some 1 := by kernel_rfl
theorem gR : Tryd.prog.globalNamed "strconv.ErrRange" = some 2 := by kernel_rfl
theorem ob_tab {M : Pm} {g : Gs} {gl : Glb} {w : World} (h : HRel M (obsG g) gl w) : Lib.TabIs Tryd.prog w "internal/strconv.uint64pow10" .u64 Lib.pow10Tab := var_heap gT (h.objs 0 _ rfl)
theorem ob_syn {M : Pm} {g : Gs} {gl : Glb} {w : World} (h : HRel M (obsG g) gl w) : w.var? Tryd.prog "strconv.ErrSyntax" = some #[.iface g.tp g.p] := var_heap gS (h.objs 1 _ rfl)
theorem ob_rng {M : Pm} {g : Gs} {gl : Glb} {w : World} (h : HRel M (obsG g) gl w) : w.var? Tryd.prog "strconv.ErrRange" = some #[.iface g.tq g.q] := var_heap gR (h.objs 2 _ rfl)
theorem fmt_any (g : Gs) (n : Int) (hn : In64 n) : TCalls Tryd.prog 30 [int n, int 10] (obsG g) none_ (callPost (told (str (itoa n)) [0, 1, 2] (obsG g))) := by
  refine TCalls.oldG (r := str (itoa n)) (CanCall.of Tryd.func30 rfl (by decide)) (fun M w xs hp hx => ?_) _ (told_post rfl)
  simp only [RelL, int, Rel] at hx
  obtain ⟨v, us, e, rfl, v2, us2, rfl, rfl, rfl⟩ := hx
  have e2 : xs = #[.int .i64 n, .int .i64 10] := Array.toList_inj.1 e
  subst e2
  refine ⟨.string ⟨(itoa n).toArray⟩, by simp only [Rel, str], (Reg.formatInt n hn.1 hn.2 w (ob_tab hp)).mono fun e w' ⟨h1, k, os, h2⟩ => ⟨h1, ?_⟩⟩
  rw [h2]
  exact Reg.below_grow w k os
/-- an error that is not nil -/
def errH (n : Int) (g : Gs) : Hint := .call false (Nat × TypeId) (fun _ => True) [0, 1, 2] false (fun a => .tup [int n, .v (.iface a.2 (.pointer (some ⟨a.1, 0, none⟩)))]) (fun _ => obsG g) (fun _ => none_)
theorem pi_ok (g : Gs) (l : List UInt8) (hl : l.length ≤ 1000) (h : (Reg.parsed l).2 = true) : TCalls Tryd.prog 33 [str l, int 10, int 64] (obsG g) none_ (callPost (told (.tup [int (Reg.parsed l).1, .v .nilIface]) [0, 1, 2] (obsG g))) := by
  refine TCalls.oldE (CanCall.of Tryd.func33 rfl (by decide)) (fun M w xs hp hx => ?_)
  simp only [RelL, str, int, Rel] at hx
  obtain ⟨v, us, e, rfl, v2, us2, rfl, rfl, v3, us3, rfl, rfl, rfl⟩ := hx
  have e2 : xs = #[.string ⟨l.toArray⟩, .int .i64 10, .int .i64 64] := Array.toList_inj.1 e
  subst e2
  have hz : (⟨l.toArray⟩ : ByteArray).size ≤ 281474976710656 := by show l.toArray.size ≤ _; simp; omega
  refine (Reg.parseInt ⟨l.toArray⟩ hz g.tp g.tq g.p g.q w (ob_syn hp) (ob_rng hp)).mono fun e w' ⟨x, h1, h2, h3⟩ => ?_
  have e3 : (⟨l.toArray⟩ : ByteArray).data.toList = l := by show l.toArray.toList = l; simp
  rw [e3] at h1 h2
  rcases h2 with ⟨_, rfl⟩ | ⟨h4, _⟩
  · exact ⟨_, .tup [int (Reg.parsed l).1, .v .nilIface], h1, by simp only [Rel, int]; exact ⟨_, rfl, by simp only [RelL]; exact ⟨_, _, rfl, by simp only [Rel], _, _, rfl, by simp only [Rel], rfl⟩⟩, h3, told_post rfl⟩
  · rw [h] at h4; cases h4
theorem pi_err (g : Gs) (l : List UInt8) (hl : l.length ≤ 1000) (h : (Reg.parsed l).2 = false) : TCalls Tryd.prog 33 [str l, int 10, int 64] (obsG g) none_ (callPost (errH (Reg.parsed l).1 g)) := by
  refine TCalls.oldE (CanCall.of Tryd.func33 rfl (by decide)) (fun M w xs hp hx => ?_)
  simp only [RelL, str, int, Rel] at hx
  obtain ⟨v, us, e, rfl, v2, us2, rfl, rfl, v3, us3, rfl, rfl, rfl⟩ := hx
  have e2 : xs = #[.string ⟨l.toArray⟩, .int .i64 10, .int .i64 64] := Array.toList_inj.1 e
  subst e2
  have hz : (⟨l.toArray⟩ : ByteArray).size ≤ 281474976710656 := by show l.toArray.size ≤ _; simp; omega
  refine (Reg.parseInt ⟨l.toArray⟩ hz g.tp g.tq g.p g.q w (ob_syn hp) (ob_rng hp)).mono fun e w' ⟨x, h1, h2, h3⟩ => ?_
  have e3 : (⟨l.toArray⟩ : ByteArray).data.toList = l := by show l.toArray.toList = l; simp
  rw [e3] at h1 h2
  rcases h2 with ⟨h4, _⟩ | ⟨_, N, T', rfl⟩
  · rw [h] at h4; cases h4
  · exact ⟨_, .tup [int (Reg.parsed l).1, .v (.iface T' (.pointer (some ⟨N, 0, none⟩)))], h1, by simp only [Rel, int]; exact ⟨_, rfl, by simp only [RelL]; exact ⟨_, _, rfl, by simp only [Rel], _, _, rfl, by simp only [Rel], rfl⟩⟩, h3, ⟨(N, T'), trivial, rfl, rfl, Nat.le_of_ble_eq_true rfl, fun h => by cases h⟩⟩
theorem strI {a b : List UInt8} : ((⟨a.toArray⟩ : ByteArray) = ⟨b.toArray⟩) ↔ a = b := ⟨fun h => by injection h with h; simpa using h, fun h => by rw [h]⟩
theorem parsed_num (l : List UInt8) : num? l = if (Reg.parsed l).2 = true ∧ itoa (Reg.parsed l).1 = l then some (Reg.parsed l).1 else none := by
  unfold Reg.num? Reg.parsed
  rw [← Go.Lib.parseIntB_64]
  cases Go.Lib.parseIntB 64 l with
  | ok v =>
    simp only [true_and]
  | range => simp
  | _ => simp
theorem parsed_in {l : List UInt8} (h : (Reg.parsed l).2 = true) : In64 (Reg.parsed l).1 := by
  have e := Go.Lib.parseIntB_64 l
  unfold Reg.parsed at h ⊢
  cases g : Go.Lib.parseIntB 64 l with
  | ok v => rw [g] at e; exact Go.Lib.atoiAll_bounds e.symm
  | range => rw [g] at h; cases h
  | _ => rw [g] at h; cases h
/-- a value's number, as number() tells it: where there is none the number is left open -/
def numH (b : Bool) (n : Int) (g : Gs) : Hint := told (.tup [int n, bool b]) [0, 1, 2] (obsG g)
theorem num_some (g : Gs) (v : Reg.Val) (hl : v.t.length ≤ 1000) (n : Int) (h : Reg.numV v = some n) : TCalls Tryd.prog 29 [.agg [bool v.h, str v.t]] (obsG g) none_ (callPost (told (.tup [int n, bool true]) [0, 1, 2] (obsG g))) := by
  have hQ : ∀ y, y = .tup [int n, bool true] → callPost (told (.tup [int n, bool true]) [0, 1, 2] (obsG g)) y (obsG g) none_ := fun y h => told_post h
  generalize callPost (told (.tup [int n, bool true]) [0, 1, 2] (obsG g)) = Q at *
  obtain ⟨b, l⟩ := v
  unfold Reg.numV at h
  simp only at h hl
  cases b with
  | false =>
    rw [if_neg (by decide)] at h
    cases h
    unfold obsG at *
    generalize tabC = TC at *
    refine TCalls.of Tryd.func29 rfl (CanCall.of Tryd.func29 rfl (by decide)) [0, 1, 2] fun Γ => ?_
    refine run_sound (⟨fun | 3, 2 => .no | 4, 5 => .no | _, _ => .no, [], fun | 4 => some ⟨[3], [], .take true [0,1,2,3,4,6,7] (.one 5 (.take true [8,9,10,11] .done))⟩ | _ => none⟩) 400 (B := ∀ (b : Nat), b = b ∧ Q (T.tup [T.v (Value.int IntKind.i64 (0 : Int)), T.v (Value.bool true)]) [((0 : Nat), Ob.whole TC (Gs.t1 g) (Gs.f1 g)), ((1 : Nat), Ob.whole #[Value.iface (Gs.tp g) (Gs.p g)] (Gs.t2 g) (Gs.f2 g)), ((2 : Nat), Ob.whole #[Value.iface (Gs.tq g) (Gs.q g)] (Gs.t3 g) (Gs.f3 g))] fun x => none) (by kernel_rfl) ?_
    repeat' (first | exact rfl | exact Nat.le_of_ble_eq_true rfl | refine And.intro ?_ ?_ | intro _ | refine bsplit_mk (fun _ => ?_) (fun _ => ?_))
    all_goals first
      | exact hQ _ rfl
      | trace_state
  | true =>
    rw [if_pos rfl, parsed_num] at h
    split at h
    · rename_i hc
      cases h
      have c1 := pi_ok g l hl hc.1
      have c2 := fmt_any g _ (parsed_in hc.1)
      have hss : decide ((⟨(itoa (Reg.parsed l).1).toArray⟩ : ByteArray) = ⟨l.toArray⟩) = true := decide_eq_true (strI.2 hc.2)
      clear hc
      generalize itoa (Reg.parsed l).1 = S at *
      generalize (Reg.parsed l).1 = n at *
      unfold obsG at *
      generalize tabC = TC at *
      refine TCalls.of Tryd.func29 rfl (CanCall.of Tryd.func29 rfl (by decide)) [0, 1, 2] fun Γ => ?_
      refine run_sound (⟨fun | 3, 2 => told (.tup [int n, .v .nilIface]) [0, 1, 2] [(0, .whole TC g.t1 g.f1), (1, .whole #[.iface g.tp g.p] g.t2 g.f2), (2, .whole #[.iface g.tq g.q] g.t3 g.f3)] | 4, 5 => told (str S) [0, 1, 2] [(0, .whole TC g.t1 g.f1), (1, .whole #[.iface g.tp g.p] g.t2 g.f2), (2, .whole #[.iface g.tq g.q] g.t3 g.f3)] | _, _ => .no, [], fun | 4 => some ⟨[3], [], .take true [0,1,2,3,4,6,7] (.one 5 (.take true [8,9,10,11] .done))⟩ | _ => none⟩) 400 (B := ∀ (b : Nat), b = b ∧ b = b ∧ TCalls Tryd.prog (33 : Nat) [T.v (Value.string (ByteArray.mk (List.toArray (Reg.Val.t { h := true, t := l })))), T.v (Value.int IntKind.i64 (10 : Int)), T.v (Value.int IntKind.i64 (64 : Int))] [((0 : Nat), Ob.whole TC (Gs.t1 g) (Gs.f1 g)), ((1 : Nat), Ob.whole #[Value.iface (Gs.tp g) (Gs.p g)] (Gs.t2 g) (Gs.f2 g)), ((2 : Nat), Ob.whole #[Value.iface (Gs.tq g) (Gs.q g)] (Gs.t3 g) (Gs.f3 g))] (fun x => none) (callPost (Hint.call false Unit (fun x => True) [(0 : Nat), (1 : Nat), (2 : Nat)] false (fun x => T.tup [int n, T.v Value.nilIface]) (fun x => [((0 : Nat), Ob.whole TC (Gs.t1 g) (Gs.f1 g)), ((1 : Nat), Ob.whole #[Value.iface (Gs.tp g) (Gs.p g)] (Gs.t2 g) (Gs.f2 g)), ((2 : Nat), Ob.whole #[Value.iface (Gs.tq g) (Gs.q g)] (Gs.t3 g) (Gs.f3 g))]) fun x => none_)) ∧ ∀ (a : Unit), True → b = b ∧ TCalls Tryd.prog (30 : Nat) [T.v (Value.int IntKind.i64 n), T.v (Value.int IntKind.i64 (10 : Int))] [((0 : Nat), Ob.whole TC (Gs.t1 g) (Gs.f1 g)), ((1 : Nat), Ob.whole #[Value.iface (Gs.tp g) (Gs.p g)] (Gs.t2 g) (Gs.f2 g)), ((2 : Nat), Ob.whole #[Value.iface (Gs.tq g) (Gs.q g)] (Gs.t3 g) (Gs.f3 g))] (fun x => none) (callPost (Hint.call false Unit (fun x => True) [(0 : Nat), (1 : Nat), (2 : Nat)] false (fun x => str S) (fun x => [((0 : Nat), Ob.whole TC (Gs.t1 g) (Gs.f1 g)), ((1 : Nat), Ob.whole #[Value.iface (Gs.tp g) (Gs.p g)] (Gs.t2 g) (Gs.f2 g)), ((2 : Nat), Ob.whole #[Value.iface (Gs.tq g) (Gs.q g)] (Gs.t3 g) (Gs.f3 g))]) fun x => none_)) ∧ ∀ (a : Unit), True → Q (T.tup [T.v (Value.int IntKind.i64 n), T.v (Value.bool (decide ((ByteArray.mk (List.toArray S)) = (ByteArray.mk (List.toArray (Reg.Val.t { h := true, t := l }))))))]) [((0 : Nat), Ob.whole TC (Gs.t1 g) (Gs.f1 g)), ((1 : Nat), Ob.whole #[Value.iface (Gs.tp g) (Gs.p g)] (Gs.t2 g) (Gs.f2 g)), ((2 : Nat), Ob.whole #[Value.iface (Gs.tq g) (Gs.q g)] (Gs.t3 g) (Gs.f3 g))] fun x => none) (by kernel_rfl) ?_
      repeat' (first | exact rfl | exact Nat.le_of_ble_eq_true rfl | refine And.intro ?_ ?_ | intro _ | refine bsplit_mk (fun _ => ?_) (fun _ => ?_))
      all_goals first
        | exact c1
        | exact c2
        | exact hQ _ rfl
        | (rw [hss]; exact hQ _ rfl)
        | trace_state
    · cases h
theorem num_none (g : Gs) (v : Reg.Val) (hl : v.t.length ≤ 1000) (h : Reg.numV v = none) (Q : T → Obs → Glb → Prop) (hQ : ∀ n, Q (.tup [int n, bool false]) (obsG g) none_) : TCalls Tryd.prog 29 [.agg [bool v.h, str v.t]] (obsG g) none_ Q := by
  obtain ⟨b, l⟩ := v
  unfold Reg.numV at h
  simp only at h hl
  cases b with
  | false =>
    rw [if_neg (by decide)] at h
    cases h
  | true =>
    rw [if_pos rfl, parsed_num] at h
    split at h
    · cases h
    · rename_i hc
      cases hp : (Reg.parsed l).2 with
      | false =>
        have c1 := pi_err g l hl hp
        unfold errH at c1
        clear hc h
        generalize (Reg.parsed l).1 = n at *
        unfold obsG at *
        generalize tabC = TC at *
        refine TCalls.of Tryd.func29 rfl (CanCall.of Tryd.func29 rfl (by decide)) [0, 1, 2] fun Γ => ?_
        refine run_sound (⟨fun | 3, 2 => .call false (Nat × TypeId) (fun _ => True) [0, 1, 2] false (fun a => .tup [int n, .v (.iface a.2 (.pointer (some ⟨a.1, 0, none⟩)))]) (fun _ => [(0, .whole TC g.t1 g.f1), (1, .whole #[.iface g.tp g.p] g.t2 g.f2), (2, .whole #[.iface g.tq g.q] g.t3 g.f3)]) (fun _ => none_) | 4, 5 => .no | _, _ => .no, [], fun | 4 => some ⟨[3], [], .take true [0,1,2,3,4,6,7] (.one 5 (.take true [8,9,10,11] .done))⟩ | _ => none⟩) 400 (B := ∀ (b : Nat), b = b ∧ b = b ∧ TCalls Tryd.prog (33 : Nat) [T.v (Value.string (ByteArray.mk (List.toArray (Reg.Val.t { h := true, t := l })))), T.v (Value.int IntKind.i64 (10 : Int)), T.v (Value.int IntKind.i64 (64 : Int))] [((0 : Nat), Ob.whole TC (Gs.t1 g) (Gs.f1 g)), ((1 : Nat), Ob.whole #[Value.iface (Gs.tp g) (Gs.p g)] (Gs.t2 g) (Gs.f2 g)), ((2 : Nat), Ob.whole #[Value.iface (Gs.tq g) (Gs.q g)] (Gs.t3 g) (Gs.f3 g))] (fun x => none) (callPost (Hint.call false (Nat × TypeId) (fun x => True) [(0 : Nat), (1 : Nat), (2 : Nat)] false (fun a => T.tup [int n, T.v (Value.iface (Prod.snd a) (Value.pointer (some { block := Prod.fst a, off := (0 : Nat) })))]) (fun x => [((0 : Nat), Ob.whole TC (Gs.t1 g) (Gs.f1 g)), ((1 : Nat), Ob.whole #[Value.iface (Gs.tp g) (Gs.p g)] (Gs.t2 g) (Gs.f2 g)), ((2 : Nat), Ob.whole #[Value.iface (Gs.tq g) (Gs.q g)] (Gs.t3 g) (Gs.f3 g))]) fun x => none_)) ∧ ∀ (a : Nat × TypeId), True → Q (T.tup [T.v (Value.int IntKind.i64 n), T.v (Value.bool false)]) [((0 : Nat), Ob.whole TC (Gs.t1 g) (Gs.f1 g)), ((1 : Nat), Ob.whole #[Value.iface (Gs.tp g) (Gs.p g)] (Gs.t2 g) (Gs.f2 g)), ((2 : Nat), Ob.whole #[Value.iface (Gs.tq g) (Gs.q g)] (Gs.t3 g) (Gs.f3 g))] fun x => none) (by kernel_rfl) ?_
        repeat' (first | exact rfl | exact Nat.le_of_ble_eq_true rfl | refine And.intro ?_ ?_ | intro _ | refine bsplit_mk (fun _ => ?_) (fun _ => ?_))
        all_goals first
          | exact c1
          | exact hQ _
          | trace_state
      | true =>
        have c1 := pi_ok g l hl hp
        have c2 := fmt_any g _ (parsed_in hp)
        have hss : decide ((⟨(itoa (Reg.parsed l).1).toArray⟩ : ByteArray) = ⟨l.toArray⟩) = false := decide_eq_false (fun e => hc ⟨hp, strI.1 e⟩)
        clear hc h hp
        generalize itoa (Reg.parsed l).1 = S at *
        generalize (Reg.parsed l).1 = n at *
        unfold obsG at *
        generalize tabC = TC at *
        refine TCalls.of Tryd.func29 rfl (CanCall.of Tryd.func29 rfl (by decide)) [0, 1, 2] fun Γ => ?_
        refine run_sound (⟨fun | 3, 2 => told (.tup [int n, .v .nilIface]) [0, 1, 2] [(0, .whole TC g.t1 g.f1), (1, .whole #[.iface g.tp g.p] g.t2 g.f2), (2, .whole #[.iface g.tq g.q] g.t3 g.f3)] | 4, 5 => told (str S) [0, 1, 2] [(0, .whole TC g.t1 g.f1), (1, .whole #[.iface g.tp g.p] g.t2 g.f2), (2, .whole #[.iface g.tq g.q] g.t3 g.f3)] | _, _ => .no, [], fun | 4 => some ⟨[3], [], .take true [0,1,2,3,4,6,7] (.one 5 (.take true [8,9,10,11] .done))⟩ | _ => none⟩) 400 (B := ∀ (b : Nat), b = b ∧ b = b ∧ TCalls Tryd.prog (33 : Nat) [T.v (Value.string (ByteArray.mk (List.toArray (Reg.Val.t { h := true, t := l })))), T.v (Value.int IntKind.i64 (10 : Int)), T.v (Value.int IntKind.i64 (64 : Int))] [((0 : Nat), Ob.whole TC (Gs.t1 g) (Gs.f1 g)), ((1 : Nat), Ob.whole #[Value.iface (Gs.tp g) (Gs.p g)] (Gs.t2 g) (Gs.f2 g)), ((2 : Nat), Ob.whole #[Value.iface (Gs.tq g) (Gs.q g)] (Gs.t3 g) (Gs.f3 g))] (fun x => none) (callPost (Hint.call false Unit (fun x => True) [(0 : Nat), (1 : Nat), (2 : Nat)] false (fun x => T.tup [int n, T.v Value.nilIface]) (fun x => [((0 : Nat), Ob.whole TC (Gs.t1 g) (Gs.f1 g)), ((1 : Nat), Ob.whole #[Value.iface (Gs.tp g) (Gs.p g)] (Gs.t2 g) (Gs.f2 g)), ((2 : Nat), Ob.whole #[Value.iface (Gs.tq g) (Gs.q g)] (Gs.t3 g) (Gs.f3 g))]) fun x => none_)) ∧ ∀ (a : Unit), True → b = b ∧ TCalls Tryd.prog (30 : Nat) [T.v (Value.int IntKind.i64 n), T.v (Value.int IntKind.i64 (10 : Int))] [((0 : Nat), Ob.whole TC (Gs.t1 g) (Gs.f1 g)), ((1 : Nat), Ob.whole #[Value.iface (Gs.tp g) (Gs.p g)] (Gs.t2 g) (Gs.f2 g)), ((2 : Nat), Ob.whole #[Value.iface (Gs.tq g) (Gs.q g)] (Gs.t3 g) (Gs.f3 g))] (fun x => none) (callPost (Hint.call false Unit (fun x => True) [(0 : Nat), (1 : Nat), (2 : Nat)] false (fun x => str S) (fun x => [((0 : Nat), Ob.whole TC (Gs.t1 g) (Gs.f1 g)), ((1 : Nat), Ob.whole #[Value.iface (Gs.tp g) (Gs.p g)] (Gs.t2 g) (Gs.f2 g)), ((2 : Nat), Ob.whole #[Value.iface (Gs.tq g) (Gs.q g)] (Gs.t3 g) (Gs.f3 g))]) fun x => none_)) ∧ ∀ (a : Unit), True → Q (T.tup [T.v (Value.int IntKind.i64 n), T.v (Value.bool (decide ((ByteArray.mk (List.toArray S)) = (ByteArray.mk (List.toArray (Reg.Val.t { h := true, t := l }))))))]) [((0 : Nat), Ob.whole TC (Gs.t1 g) (Gs.f1 g)), ((1 : Nat), Ob.whole #[Value.iface (Gs.tp g) (Gs.p g)] (Gs.t2 g) (Gs.f2 g)), ((2 : Nat), Ob.whole #[Value.iface (Gs.tq g) (Gs.q g)] (Gs.t3 g) (Gs.f3 g))] fun x => none) (by kernel_rfl) ?_
        repeat' (first | exact rfl | exact Nat.le_of_ble_eq_true rfl | refine And.intro ?_ ?_ | intro _ | refine bsplit_mk (fun _ => ?_) (fun _ => ?_))
        all_goals first
          | exact c1
          | exact c2
          | exact hQ _
          | (rw [hss]; exact hQ _)
          | trace_state
end X4
end Go.Proofs.YtfealopjdkilfaaDoor.Vm
