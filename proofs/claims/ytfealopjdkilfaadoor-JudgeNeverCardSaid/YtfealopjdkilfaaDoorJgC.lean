/- Judge by the engine: the search, and Linear. -/
import Derived.Test.YtfealopjdkilfaaDoorJgB
namespace Go.Proofs.YtfealopjdkilfaaDoor.Vm
open Go Go.RowKit
set_option maxRecDepth 100000
namespace X27
open Reg (Val Res In64 applyR)
open Jdg (En never sure fits next Done Free ins)
open X4 (Gs obsG vC opC tabC strI)
open Jdg (left)
def nats (q : List Nat) : List T := q.map fun i : Nat => int i
def Dead (l : List En) (A : Nat → Val → Bool) : Prop := ∀ m v, A m v = true → ∀ q, ¬ Jdg.From l m v q
def OkF (l : List En) (m : Nat) (v : Val) : Option (List Nat) × (Nat → Val → Bool) → Prop
  | (some q, A) => Jdg.From l m v q ∧ Dead l A
  | (none, A) => (∀ q, ¬ Jdg.From l m v q) ∧ Dead l A
def obsJ (g : Gs) (bm b : Nat) (F : Value → Option T) (L : List T) : Obs := [(0, .whole tabC g.t1 g.f1), (1, .whole #[.iface g.tp g.p] g.t2 g.f2), (2, .whole #[.iface g.tq g.q] g.t3 g.f3), (bm, .kv kt GS F), (b, .cells [.sl 15 L, .mp 3 bm])]
/-- what a search from a state on comes to -/
def fromH (g : Gs) (bm b : Nat) (l : List En) (L : List T) (m : Nat) (v : Val) : Hint := .call false (Option (List Nat) × (Nat → Val → Bool)) (fun a => OkF l m v a) [0, 1, 2, 3, 4] false (fun a => .tup [.sl 1 (nats (a.1.getD [])), bool a.1.isSome]) (fun a => obsJ g bm b (dF a.2) L) (fun _ => none_)
theorem rel_nils {M : Pm} {k : Nat} {x : Value} (h : Rel M (.v nilS) x) : Rel M (.sl k []) x := by
  have h2 := rel_nilx (k := k) (i := 0) h
  simp only [Rel] at h h2 ⊢
  obtain ⟨e, A, cap, h3⟩ := h2
  exact ⟨A, cap, e.trans h3.1, h3.2⟩
theorem imp_nil (b : Bool) (ob : Obs) (gl : Glb) : Imp [.tup [.v nilS, bool b]] ob gl [.tup [.sl 1 [], bool b]] ob gl :=
  Imp.slotR (ts := [.tup [.v nilS, bool b]]) (j := 0) rfl (fun M v r => by
    simp only [Rel, RelL] at r ⊢
    obtain ⟨ys, e, u, us, e2, r1, r2⟩ := r
    refine ⟨ys, e, u, us, e2, ?_, r2⟩
    have := rel_nils (M := M) (k := 1) (x := u) (by simp only [Rel]; exact r1)
    simpa only [Rel] using this)
theorem ins_of (m i : Nat) (hm : m < 65536) (hi : i < 16) : (IntKind.u32.wrap ↑(BitVec.ofInt 32 (m : Int) ||| BitVec.ofInt 32 (IntKind.u32.wrap (1 * 2 ^ min (i : Int).toNat 32))).toNat) = (ins m i : Nat) := by
  have e1 : min (i : Int).toNat 32 = i := by omega
  have e2 : (1 : Int) * (2 : Int) ^ i = ((1 <<< i : Nat) : Int) := by rw [Nat.shiftLeft_eq, Nat.one_mul]; simp
  have hp : 1 <<< i < 65536 := by rw [Nat.shiftLeft_eq, Nat.one_mul]; exact Nat.pow_lt_pow_right (by decide) hi (n := 16)
  rw [e1, e2]
  generalize hq : 1 <<< i = q at *
  have e3 : IntKind.u32.wrap (q : Int) = (q : Int) := IntWalk.u32_in _ (by omega)
  have hlt : m ||| q < 65536 := Nat.or_lt_two_pow (n := 16) hm hp
  rw [e3, BitVec.ofInt_natCast, BitVec.ofInt_natCast, BitVec.toNat_or, BitVec.toNat_ofNat, BitVec.toNat_ofNat, Nat.mod_eq_of_lt (by omega), Nat.mod_eq_of_lt (by omega)]
  unfold ins
  rw [hq]
  exact IntWalk.u32_in _ (by omega)
section
variable (Γ : Ctx) (g : Gs) (bm b b3 : Nat) (l : List En) (m : Nat) (v : Val) (Q : T → Obs → Glb → Prop)
theorem from_loop (hm : m < 65536) (hl : l.length ≤ 16) (hv : v.t.length ≤ 100) (hin : ∀ x ∈ l, In64 x.op.n)
    (hr : ∀ k x v', l[k]? = some x → Free l m k x → next v x = some v' → ∀ A, Dead l A → TCalls Tryd.prog 15 [.ptr 4 b 0, .agg [u32 (ins m k : Nat), bool v'.h, str v'.t]] (obsJ g bm b (dF A) (Row.aggs enC l)) none_ (callPost (fromH g bm b l (Row.aggs enC l) (ins m k) v')))
    (q1 : ∀ k x v' r A, l[k]? = some x → Free l m k x → next v x = some v' → Jdg.From l (ins m k) v' r → Dead l A → Q (.tup [.sl 1 (int k :: nats r), bool true]) (obsJ g bm b (dF A) (Row.aggs enC l)) none_)
    (q2 : (∀ k x v', l[k]? = some x → Free l m k x → next v x = some v' → ∀ q, ¬ Jdg.From l (ins m k) v' q) → ∀ A, Dead l A → Q (.tup [.v nilS, bool false]) (obsJ g bm b (dF (upD A m v)) (Row.aggs enC l)) none_) :
    ∀ (r d : List En) (A : Nat → Val → Bool), l = d ++ r → Dead l A → (∀ k x v', k < d.length → l[k]? = some x → Free l m k x → next v x = some v' → ∀ q, ¬ Jdg.From l (ins m k) v' q) →
    TWk Tryd.prog Γ (fin Tryd.prog Tryd.f15 [0, 1, 2, 3, 4] Q) [.code (sub (bd Tryd.f15) [1, 1, 1, 0, 1, 0]), .blk 0, .code (sub (bd Tryd.f15) [1, 1, 1, 1])] ⟨frame 70 [(0, .ptr 4 b 0), (3, .ptr 5 b3 0), (25, .sl 15 (Row.aggs enC l)), (26, int l.length), (27, int d.length)], obsJ g bm b (dF A) (Row.aggs enC l) ++ [(b3, .cells [u32 m, bool v.h, str v.t])], none_⟩ := by
  intro r
  induction r with
  | nil =>
    intro d A h hd hi
    have hQ := q2 (fun k x v' hk => hi k x v' (by have := (List.getElem?_eq_some_iff.1 hk).1; rw [h] at this; simpa using this) hk) A hd
    have hup := dF_upd A m v
    have hhs := hasS m v
    have hlt : (d.length : Int) = (l.length : Int) := by rw [h]; simp
    rw [hlt]
    clear h hi hlt hd q1 q2 hr
    generalize upD A m v = A' at *
    unfold obsJ kS at *
    generalize Row.aggs enC l = L at *
    generalize (l.length : Int) = n at *
    generalize tabC = TC at *
    refine run_sound (⟨fun | 7, 1 => .res (.agg [int 0, int 0, int 0, int 0, int 0, int 0, int 0, int 0, int 0, int 0, int 0, int 0, int 0, int 0, int 0]) | 15, 5 => .kf (dF A') | _, _ => .no, [((2, 6), ([0, 3, 25, 26, 27], 6))], fun | 11 => some ⟨[], [8], .take true [0,1,2,3,4,5,6,7] (.one 8 (.take false [9,10,11,12,13] .done))⟩ | 15 => some ⟨[4, 5], [5], .take true [0,1,2,3,4] (.one 5 .done)⟩ | _ => none⟩) 400 (B := bsplit (decide (n < n)) ((0 : Int) ≤ n ∧ L[Int.toNat n]? = some (T.agg [T.v (Value.int IntKind.i64 (0 : Int)), T.v (Value.int IntKind.i64 (0 : Int)), T.v (Value.int IntKind.i64 (0 : Int)), T.v (Value.int IntKind.i64 (0 : Int)), T.v (Value.int IntKind.i64 (0 : Int)), T.v (Value.int IntKind.i64 (0 : Int)), T.v (Value.int IntKind.i64 (0 : Int)), T.v (Value.int IntKind.i64 (0 : Int)), T.v (Value.int IntKind.i64 (0 : Int)), T.v (Value.int IntKind.i64 (0 : Int)), T.v (Value.int IntKind.i64 (0 : Int)), T.v (Value.int IntKind.i64 (0 : Int)), T.v (Value.int IntKind.i64 (0 : Int)), T.v (Value.int IntKind.i64 (0 : Int)), T.v (Value.int IntKind.i64 (0 : Int))]) ∧ ∀ (b : Nat), ((15 : Nat) = nat_lit 15 ∧ List.all [T.v (Value.int IntKind.i64 (0 : Int)), T.v (Value.int IntKind.i64 (0 : Int)), T.v (Value.int IntKind.i64 (0 : Int)), T.v (Value.int IntKind.i64 (0 : Int)), T.v (Value.int IntKind.i64 (0 : Int)), T.v (Value.int IntKind.i64 (0 : Int)), T.v (Value.int IntKind.i64 (0 : Int)), T.v (Value.int IntKind.i64 (0 : Int)), T.v (Value.int IntKind.i64 (0 : Int)), T.v (Value.int IntKind.i64 (0 : Int)), T.v (Value.int IntKind.i64 (0 : Int)), T.v (Value.int IntKind.i64 (0 : Int)), T.v (Value.int IntKind.i64 (0 : Int)), T.v (Value.int IntKind.i64 (0 : Int)), T.v (Value.int IntKind.i64 (0 : Int))] T.one = true) ∧ b = b ∧ (0 : Nat) + nat_lit 15 ≤ (15 : Nat) ∧ b3 = b3 ∧ False) (b = b ∧ b3 = b3 ∧ (bm = bm ∧ KeyOk Tryd.prog (62 : Nat) GS ∧ HasK GS (Value.agg #[Value.int IntKind.u32 (↑m : Int), Value.bool (Val.h v), Value.string (ByteArray.mk (List.toArray (Val.t v)))]) ∧ UpdK (dF A') (dF A) (Value.agg #[Value.int IntKind.u32 (↑m : Int), Value.bool (Val.h v), Value.string (ByteArray.mk (List.toArray (Val.t v)))]) (T.v (Value.bool true))) ∧ Q (T.tup [T.v (Value.slice none (0 : Nat) (0 : Nat)), T.v (Value.bool false)]) [((0 : Nat), Ob.whole TC (Gs.t1 g) (Gs.f1 g)), ((1 : Nat), Ob.whole #[Value.iface (Gs.tp g) (Gs.p g)] (Gs.t2 g) (Gs.f2 g)), ((2 : Nat), Ob.whole #[Value.iface (Gs.tq g) (Gs.q g)] (Gs.t3 g) (Gs.f3 g)), (bm, Ob.kv (62 : Nat) GS (dF A')), (b, Ob.cells [T.sl (15 : Nat) L, T.mp (3 : Nat) bm])] fun x => none)) (by kernel_rfl) ?_
    repeat' (first | exact rfl | exact Nat.le_of_ble_eq_true rfl | refine And.intro ?_ ?_ | intro _ | refine bsplit_mk (fun _ => ?_) (fun _ => ?_))
    all_goals first
      | exact hQ
      | exact keyOk
      | exact hup.1
      | exact hup.2 _ ‹_›
      | exact hhs
      | (exfalso; simp at *; done)
      | trace_state
  | cons x r ih =>
    intro d A h hd hi
    have hx : l[d.length]? = some x := by rw [h]; simp
    have hlt : d.length < l.length := (List.getElem?_eq_some_iff.1 hx).1
    have hat : (Row.aggs enC l)[(d.length : Int).toNat]? = some (.agg (enC x)) := Row.aggs_at (by rw [Int.toNat_natCast]; exact hx)
    have hal : (Row.aggs enC l).length = l.length := Row.aggs_len l
    obtain ⟨fr, hfr⟩ : ∃ fr : Bool, (fr = true ↔ Free l m d.length x) := by
      by_cases hf : Free l m d.length x
      · exact ⟨true, fun _ => hf, fun _ => rfl⟩
      · exact ⟨false, fun h => (by cases h), fun h => absurd h hf⟩
    have c1 : TCalls Tryd.prog 26 [.ptr 1 b 0, u32 m, int d.length] (obsK bm b (dF A) (Row.aggs enC l)) none_ (callPost (told (bool fr) [3, 4] (obsK bm b (dF A) (Row.aggs enC l)))) := free_any bm b (dF A) l m _ hm hl d.length x hx (fun c hc => told_post (by
      have : c = fr := by rw [Bool.eq_iff_iff]; exact hc.trans hfr.symm
      rw [this]))
    have c2 := japply_post g v (by omega) x (hin x (List.mem_of_getElem? hx))
    have hn : fits x (applyR v x.op) = true → next v x = some (applyR v x.op).v := fun h => by unfold Jdg.next; rw [if_pos h]
    have hn2 : fits x (applyR v x.op) = false → next v x = none := fun h => by unfold Jdg.next; rw [if_neg (by rw [h]; decide)]
    unfold retJ at c2
    generalize fits x (applyR v x.op) = ok at *
    generalize (applyR v x.op).v = w at *
    have c3 := fun (h1 : fr = true) (h2 : ok = true) => hr d.length x w hx (hfr.1 h1) (hn h2) A hd
    have nx := fun (A' : Nat → Val → Bool) (hd' : Dead l A') (hno : fr = true → ok = true → ∀ q, ¬ Jdg.From l (ins m d.length) w q) => ih (d ++ [x]) A' (by rw [h]; simp) hd' (fun k y v' hkl hy hf hnx => by
      rw [List.length_append, List.length_singleton] at hkl
      by_cases e : k = d.length
      · subst e
        obtain rfl := Option.some.inj (hx.symm.trans hy)
        cases hok : ok with
        | true =>
          have e2 := Option.some.inj ((hn hok).symm.trans hnx)
          rw [← e2]
          exact hno (hfr.2 hf) hok
        | false => rw [hn2 hok] at hnx; cases hnx
      · exact hi k y v' (by omega) hy hf hnx)
    rw [show (d ++ [x]).length = d.length + 1 by simp] at nx
    have nx0 := nx A hd
    have hlen : ∀ a : Option (List Nat) × (Nat → Val → Bool), a.1.isSome = true → OkF l (ins m d.length) w a → (nats (a.1.getD [])).length ≤ 16 := fun ⟨o, A'⟩ h h2 => by
      cases o with
      | some q =>
        have h3 := Jdg.from_len h2.1
        have h4 := Jdg.left_le l.length (ins m d.length)
        show (nats q).length ≤ 16
        unfold nats; rw [List.length_map]; omega
      | none => cases h
    have yes := fun (h1 : fr = true) (h2 : ok = true) r A' (h3 : Jdg.From l (ins m d.length) w r) (h4 : Dead l A') => q1 d.length x w r A' hx (hfr.1 h1) (hn h2) h3 h4
    have hw : T.v (.int .i64 (IntKind.wrap .i64 ((d.length : Int) + 1))) = int (d.length + 1 : Nat) := congrArg int (by rw [wrap_i64 (by omega) (by omega)]; omega)
    have hins : T.v (.int .u32 (IntKind.u32.wrap ↑(BitVec.ofInt 32 (m : Int) ||| BitVec.ofInt 32 (IntKind.u32.wrap (1 * 2 ^ min (d.length : Int).toNat 32))).toNat)) = u32 (ins m d.length : Nat) := congrArg u32 (ins_of m d.length hm (by omega))
    have hltz : decide ((d.length : Int) < (l.length : Int)) = true := decide_eq_true (by omega)
    have hok : ∀ m' v' a, OkF l m' v' a → Dead l a.2 ∧ (a.1.isSome = true → Jdg.From l m' v' (a.1.getD [])) ∧ (a.1.isSome = false → ∀ q, ¬ Jdg.From l m' v' q) := fun m' v' ⟨o, A'⟩ h => by
      cases o with
      | some q => exact ⟨h.2, fun _ => h.1, fun e => (by cases e)⟩
      | none => exact ⟨h.2, fun e => (by cases e), fun _ => h.1⟩
    clear ih h hi hx hr q1 q2 hfr hn hn2
    have hok := hok (ins m d.length) w
    unfold obsK vC at *
    unfold obsJ fromH at *
    unfold obsJ at *
    unfold obsG at *
    generalize hL : Row.aggs enC l = L at *
    unfold enC at *
    generalize hM : ins m d.length = m' at *
    generalize d.length = k at *
    generalize hnn : l.length = n at *
    generalize tabC = TC at *
    generalize dF A = F at *
    refine run_sound (⟨fun | 7, 1 => .res (.agg [int x.op.k, int x.op.key, str x.op.t, bool x.op.o.h, str x.op.o.t, int x.op.n, int x.s, int x.e, int x.er, bool x.av.h, str x.av.t, u32 0, u8 0, u8 0, bool x.w]) | 8, 4 => told (bool fr) [3, 4] [(bm, .kv kt GS F), (b, .cells [.sl 15 L, .mp 0 bm])] | 9, 3 => told (.tup [.agg [bool w.h, str w.t], bool ok]) [0, 1, 2] [(0, .whole TC g.t1 g.f1), (1, .whole #[.iface g.tp g.p] g.t2 g.f2), (2, .whole #[.iface g.tq g.q] g.t3 g.f3)] | 11, 5 => .res (u32 m') | 11, 8 => .call false (Option (List Nat) × (Nat → Val → Bool)) (fun a => OkF l m' w a) [0, 1, 2, 3, 4] false (fun a => .tup [.sl 1 (nats (a.1.getD [])), bool a.1.isSome]) (fun a => [(0, .whole TC g.t1 g.f1), (1, .whole #[.iface g.tp g.p] g.t2 g.f2), (2, .whole #[.iface g.tq g.q] g.t3 g.f3), (bm, .kv kt GS (dF a.2)), (b, .cells [.sl 15 L, .mp 3 bm])]) (fun _ => none_) | 13, 1 => .plain .no | 14, 0 => .res (int (k + 1 : Nat)) | _, _ => .no, [((2, 6), ([0, 3, 25, 26, 27], 6))], fun | 11 => some ⟨[5, 7], [8], .take true [0,1,2,3,4,5,6,7] (.one 8 (.take false [9,10,11,12,13] .done))⟩ | 15 => some ⟨[4, 5], [5], .take true [0,1,2,3,4] (.one 5 .done)⟩ | _ => none⟩) 400 (B := bsplit (decide ((↑k : Int) < (↑n : Int))) ((0 : Int) ≤ (↑k : Int) ∧ L[Int.toNat (↑k : Int)]? = some (T.agg [T.v (Value.int IntKind.i64 (Reg.Op.k (En.op x))), T.v (Value.int IntKind.i64 (Reg.Op.key (En.op x))), T.v (Value.string (ByteArray.mk (List.toArray (Reg.Op.t (En.op x))))), T.v (Value.bool (Val.h (Reg.Op.o (En.op x)))), T.v (Value.string (ByteArray.mk (List.toArray (Val.t (Reg.Op.o (En.op x)))))), T.v (Value.int IntKind.i64 (Reg.Op.n (En.op x))), T.v (Value.int IntKind.i64 (En.s x)), T.v (Value.int IntKind.i64 (En.e x)), T.v (Value.int IntKind.i64 (En.er x)), T.v (Value.bool (Val.h (En.av x))), T.v (Value.string (ByteArray.mk (List.toArray (Val.t (En.av x))))), T.v (Value.int IntKind.u32 (0 : Int)), T.v (Value.int IntKind.u8 (0 : Int)), T.v (Value.int IntKind.u8 (0 : Int)), T.v (Value.bool (En.w x))]) ∧ ∀ (b_1 : Nat), ((15 : Nat) = nat_lit 15 ∧ List.all [T.v (Value.int IntKind.i64 (Reg.Op.k (En.op x))), T.v (Value.int IntKind.i64 (Reg.Op.key (En.op x))), T.v (Value.string (ByteArray.mk (List.toArray (Reg.Op.t (En.op x))))), T.v (Value.bool (Val.h (Reg.Op.o (En.op x)))), T.v (Value.string (ByteArray.mk (List.toArray (Val.t (Reg.Op.o (En.op x)))))), T.v (Value.int IntKind.i64 (Reg.Op.n (En.op x))), T.v (Value.int IntKind.i64 (En.s x)), T.v (Value.int IntKind.i64 (En.e x)), T.v (Value.int IntKind.i64 (En.er x)), T.v (Value.bool (Val.h (En.av x))), T.v (Value.string (ByteArray.mk (List.toArray (Val.t (En.av x))))), T.v (Value.int IntKind.u32 (0 : Int)), T.v (Value.int IntKind.u8 (0 : Int)), T.v (Value.int IntKind.u8 (0 : Int)), T.v (Value.bool (En.w x))] T.one = true) ∧ b_1 = b_1 ∧ (0 : Nat) + nat_lit 15 ≤ (15 : Nat) ∧ b3 = b3 ∧ TCalls Tryd.prog (26 : Nat) [T.ptr (1 : Nat) b (0 : Nat), T.v (Value.int IntKind.u32 (↑m : Int)), T.v (Value.int IntKind.i64 (↑k : Int))] [(bm, Ob.kv (62 : Nat) GS F), (b, Ob.cells [T.sl (15 : Nat) L, T.mp (0 : Nat) bm])] (fun x => none) (callPost (Hint.call false Unit (fun x => True) [(3 : Nat), (4 : Nat)] false (fun x => bool fr) (fun x => [(bm, Ob.kv kt GS F), (b, Ob.cells [T.sl (15 : Nat) L, T.mp (0 : Nat) bm])]) fun x => none_)) ∧ ∀ (a : Unit), True → bsplit (!fr) (T.v (Value.int IntKind.i64 (IntKind.wrap IntKind.i64 ((↑k : Int) + (1 : Int)))) = T.v (Value.int IntKind.i64 (↑(k + (1 : Nat)) : Int)) ∧ TWk Tryd.prog Γ (fin Tryd.prog Tryd.f15 [(0 : Nat), (1 : Nat), (2 : Nat), (3 : Nat), (4 : Nat)] Q) [It.code (sub (bd Tryd.f15) [(1 : Nat), (1 : Nat), (1 : Nat), (0 : Nat), (1 : Nat), (0 : Nat)]), It.blk (0 : Nat), It.code (sub (bd Tryd.f15) [(1 : Nat), (1 : Nat), (1 : Nat), (1 : Nat)])] { fr := [T.ptr (4 : Nat) b (0 : Nat), T.und, T.und, T.ptr (5 : Nat) b3 (0 : Nat), T.und, T.und, T.und, T.und, T.und, T.und, T.und, T.und, T.und, T.und, T.und, T.und, T.und, T.und, T.und, T.und, T.und, T.und, T.und, T.und, T.und, T.sl (15 : Nat) L, T.v (Value.int IntKind.i64 (↑n : Int)), T.v (Value.int IntKind.i64 (↑(k + (1 : Nat)) : Int)), T.und, T.und, T.und, T.und, T.und, T.und, T.und, T.und, T.und, T.und, T.und, T.und, T.und, T.und, T.und, T.und, T.und, T.und, T.und, T.und, T.und, T.und, T.und, T.und, T.und, T.und, T.und, T.und, T.und, T.und, T.und, T.und, T.und, T.und, T.und, T.und, T.und, T.und, T.und, T.und, T.und, T.und], ob := [((0 : Nat), Ob.whole TC (Gs.t1 g) (Gs.f1 g)), ((1 : Nat), Ob.whole #[Value.iface (Gs.tp g) (Gs.p g)] (Gs.t2 g) (Gs.f2 g)), ((2 : Nat), Ob.whole #[Value.iface (Gs.tq g) (Gs.q g)] (Gs.t3 g) (Gs.f3 g)), (bm, Ob.kv (62 : Nat) GS F), (b, Ob.cells [T.sl (15 : Nat) L, T.mp (3 : Nat) bm]), (b3, Ob.cells [T.v (Value.int IntKind.u32 (↑m : Int)), T.v (Value.bool (Val.h v)), T.v (Value.string (ByteArray.mk (List.toArray (Val.t v))))])], gl := fun x => none }) (b3 = b3 ∧ b_1 = b_1 ∧ TCalls Tryd.prog (21 : Nat) [T.agg [T.v (Value.bool (Val.h v)), T.v (Value.string (ByteArray.mk (List.toArray (Val.t v))))], T.agg [T.v (Value.int IntKind.i64 (Reg.Op.k (En.op x))), T.v (Value.int IntKind.i64 (Reg.Op.key (En.op x))), T.v (Value.string (ByteArray.mk (List.toArray (Reg.Op.t (En.op x))))), T.v (Value.bool (Val.h (Reg.Op.o (En.op x)))), T.v (Value.string (ByteArray.mk (List.toArray (Val.t (Reg.Op.o (En.op x)))))), T.v (Value.int IntKind.i64 (Reg.Op.n (En.op x))), T.v (Value.int IntKind.i64 (En.s x)), T.v (Value.int IntKind.i64 (En.e x)), T.v (Value.int IntKind.i64 (En.er x)), T.v (Value.bool (Val.h (En.av x))), T.v (Value.string (ByteArray.mk (List.toArray (Val.t (En.av x))))), T.v (Value.int IntKind.u32 (0 : Int)), T.v (Value.int IntKind.u8 (0 : Int)), T.v (Value.int IntKind.u8 (0 : Int)), T.v (Value.bool (En.w x))]] [((0 : Nat), Ob.whole TC (Gs.t1 g) (Gs.f1 g)), ((1 : Nat), Ob.whole #[Value.iface (Gs.tp g) (Gs.p g)] (Gs.t2 g) (Gs.f2 g)), ((2 : Nat), Ob.whole #[Value.iface (Gs.tq g) (Gs.q g)] (Gs.t3 g) (Gs.f3 g))] (fun x => none) (callPost (Hint.call false Unit (fun x => True) [(0 : Nat), (1 : Nat), (2 : Nat)] false (fun x => T.tup [T.agg [bool (Val.h w), str (Val.t w)], bool ok]) (fun x => [((0 : Nat), Ob.whole TC (Gs.t1 g) (Gs.f1 g)), ((1 : Nat), Ob.whole #[Value.iface (Gs.tp g) (Gs.p g)] (Gs.t2 g) (Gs.f2 g)), ((2 : Nat), Ob.whole #[Value.iface (Gs.tq g) (Gs.q g)] (Gs.t3 g) (Gs.f3 g))]) fun x => none_)) ∧ ∀ (a : Unit), True → ∀ (b_2 : Nat), ((2 : Nat) = nat_lit 2 ∧ List.all [T.v (Value.bool (Val.h w)), T.v (Value.string (ByteArray.mk (List.toArray (Val.t w))))] T.one = true) ∧ b_2 = b_2 ∧ (0 : Nat) + nat_lit 2 ≤ (2 : Nat) ∧ bsplit (!ok) (T.v (Value.int IntKind.i64 (IntKind.wrap IntKind.i64 ((↑k : Int) + (1 : Int)))) = T.v (Value.int IntKind.i64 (↑(k + (1 : Nat)) : Int)) ∧ TWk Tryd.prog Γ (fin Tryd.prog Tryd.f15 [(0 : Nat), (1 : Nat), (2 : Nat), (3 : Nat), (4 : Nat)] Q) [It.code (sub (bd Tryd.f15) [(1 : Nat), (1 : Nat), (1 : Nat), (0 : Nat), (1 : Nat), (0 : Nat)]), It.blk (0 : Nat), It.code (sub (bd Tryd.f15) [(1 : Nat), (1 : Nat), (1 : Nat), (1 : Nat)])] { fr := [T.ptr (4 : Nat) b (0 : Nat), T.und, T.und, T.ptr (5 : Nat) b3 (0 : Nat), T.und, T.und, T.und, T.und, T.und, T.und, T.und, T.und, T.und, T.und, T.und, T.und, T.und, T.und, T.und, T.und, T.und, T.und, T.und, T.und, T.und, T.sl (15 : Nat) L, T.v (Value.int IntKind.i64 (↑n : Int)), T.v (Value.int IntKind.i64 (↑(k + (1 : Nat)) : Int)), T.und, T.und, T.und, T.und, T.und, T.und, T.und, T.und, T.und, T.und, T.und, T.und, T.und, T.und, T.und, T.und, T.und, T.und, T.und, T.und, T.und, T.und, T.und, T.und, T.und, T.und, T.und, T.und, T.und, T.und, T.und, T.und, T.und, T.und, T.und, T.und, T.und, T.und, T.und, T.und, T.und, T.und], ob := [((0 : Nat), Ob.whole TC (Gs.t1 g) (Gs.f1 g)), ((1 : Nat), Ob.whole #[Value.iface (Gs.tp g) (Gs.p g)] (Gs.t2 g) (Gs.f2 g)), ((2 : Nat), Ob.whole #[Value.iface (Gs.tq g) (Gs.q g)] (Gs.t3 g) (Gs.f3 g)), (bm, Ob.kv (62 : Nat) GS F), (b, Ob.cells [T.sl (15 : Nat) L, T.mp (3 : Nat) bm]), (b3, Ob.cells [T.v (Value.int IntKind.u32 (↑m : Int)), T.v (Value.bool (Val.h v)), T.v (Value.string (ByteArray.mk (List.toArray (Val.t v))))])], gl := fun x => none }) (b3 = b3 ∧ ¬(↑k : Int) < (0 : Int) ∧ T.v (Value.int IntKind.u32 (IntKind.wrap IntKind.u32 (↑(BitVec.toNat (BitVec.ofInt (32 : Nat) (↑m : Int) ||| BitVec.ofInt (32 : Nat) (IntKind.wrap IntKind.u32 ((1 : Int) * (2 : Int) ^ min (Int.toNat (↑k : Int)) (32 : Nat))))) : Int))) = T.v (Value.int IntKind.u32 (↑m' : Int)) ∧ b_2 = b_2 ∧ TCalls Tryd.prog (15 : Nat) [T.ptr (4 : Nat) b (0 : Nat), T.agg [T.v (Value.int IntKind.u32 (↑m' : Int)), T.v (Value.bool (Val.h w)), T.v (Value.string (ByteArray.mk (List.toArray (Val.t w))))]] [((0 : Nat), Ob.whole TC (Gs.t1 g) (Gs.f1 g)), ((1 : Nat), Ob.whole #[Value.iface (Gs.tp g) (Gs.p g)] (Gs.t2 g) (Gs.f2 g)), ((2 : Nat), Ob.whole #[Value.iface (Gs.tq g) (Gs.q g)] (Gs.t3 g) (Gs.f3 g)), (bm, Ob.kv (62 : Nat) GS F), (b, Ob.cells [T.sl (15 : Nat) L, T.mp (3 : Nat) bm])] (fun x => none) (callPost (Hint.call false (Option (List Nat) × (Nat → Val → Bool)) (fun a => OkF l m' w a) [(0 : Nat), (1 : Nat), (2 : Nat), (3 : Nat), (4 : Nat)] false (fun a => T.tup [T.sl (1 : Nat) (nats (Option.getD (Prod.fst a) [])), bool (Option.isSome (Prod.fst a))]) (fun a => [((0 : Nat), Ob.whole TC (Gs.t1 g) (Gs.f1 g)), ((1 : Nat), Ob.whole #[Value.iface (Gs.tp g) (Gs.p g)] (Gs.t2 g) (Gs.f2 g)), ((2 : Nat), Ob.whole #[Value.iface (Gs.tq g) (Gs.q g)] (Gs.t3 g) (Gs.f3 g)), (bm, Ob.kv kt GS (dF (Prod.snd a))), (b, Ob.cells [T.sl (15 : Nat) L, T.mp (3 : Nat) bm])]) fun x => none_)) ∧ ∀ (a : Option (List Nat) × (Nat → Val → Bool)), OkF l m' w a → bsplit (Option.isSome (Prod.fst a)) (∀ (x : Value), (x = x ∧ (1 : Nat) = (1 : Nat)) ∧ Fits ((1 : Nat) + List.length (nats (Option.getD (Prod.fst a) []))) (nat_lit 8) ∧ ∀ (x : Value), Q (T.tup [T.sl (1 : Nat) (T.v (Value.int IntKind.i64 (↑k : Int)) :: nats (Option.getD (Prod.fst a) [])), T.v (Value.bool true)]) [((0 : Nat), Ob.whole TC (Gs.t1 g) (Gs.f1 g)), ((1 : Nat), Ob.whole #[Value.iface (Gs.tp g) (Gs.p g)] (Gs.t2 g) (Gs.f2 g)), ((2 : Nat), Ob.whole #[Value.iface (Gs.tq g) (Gs.q g)] (Gs.t3 g) (Gs.f3 g)), (bm, Ob.kv (62 : Nat) GS (dF (Prod.snd a))), (b, Ob.cells [T.sl (15 : Nat) L, T.mp (3 : Nat) bm])] fun x => none) (T.v (Value.int IntKind.i64 (IntKind.wrap IntKind.i64 ((↑k : Int) + (1 : Int)))) = T.v (Value.int IntKind.i64 (↑(k + (1 : Nat)) : Int)) ∧ TWk Tryd.prog Γ (fin Tryd.prog Tryd.f15 [(0 : Nat), (1 : Nat), (2 : Nat), (3 : Nat), (4 : Nat)] Q) [It.code (sub (bd Tryd.f15) [(1 : Nat), (1 : Nat), (1 : Nat), (0 : Nat), (1 : Nat), (0 : Nat)]), It.blk (0 : Nat), It.code (sub (bd Tryd.f15) [(1 : Nat), (1 : Nat), (1 : Nat), (1 : Nat)])] { fr := [T.ptr (4 : Nat) b (0 : Nat), T.und, T.und, T.ptr (5 : Nat) b3 (0 : Nat), T.und, T.und, T.und, T.und, T.und, T.und, T.und, T.und, T.und, T.und, T.und, T.und, T.und, T.und, T.und, T.und, T.und, T.und, T.und, T.und, T.und, T.sl (15 : Nat) L, T.v (Value.int IntKind.i64 (↑n : Int)), T.v (Value.int IntKind.i64 (↑(k + (1 : Nat)) : Int)), T.und, T.und, T.und, T.und, T.und, T.und, T.und, T.und, T.und, T.und, T.und, T.und, T.und, T.und, T.und, T.und, T.und, T.und, T.und, T.und, T.und, T.und, T.und, T.und, T.und, T.und, T.und, T.und, T.und, T.und, T.und, T.und, T.und, T.und, T.und, T.und, T.und, T.und, T.und, T.und, T.und, T.und], ob := [((0 : Nat), Ob.whole TC (Gs.t1 g) (Gs.f1 g)), ((1 : Nat), Ob.whole #[Value.iface (Gs.tp g) (Gs.p g)] (Gs.t2 g) (Gs.f2 g)), ((2 : Nat), Ob.whole #[Value.iface (Gs.tq g) (Gs.q g)] (Gs.t3 g) (Gs.f3 g)), (bm, Ob.kv (62 : Nat) GS (dF (Prod.snd a))), (b, Ob.cells [T.sl (15 : Nat) L, T.mp (3 : Nat) bm]), (b3, Ob.cells [T.v (Value.int IntKind.u32 (↑m : Int)), T.v (Value.bool (Val.h v)), T.v (Value.string (ByteArray.mk (List.toArray (Val.t v))))])], gl := fun x => none })))) (b = b ∧ b3 = b3 ∧ False)) (by kernel_rfl) ?_
    repeat' (first | exact rfl | exact Nat.le_of_ble_eq_true rfl | refine And.intro ?_ ?_ | intro _ | refine bsplit_mk (fun _ => ?_) (fun _ => ?_))
    all_goals first
      | exact c1
      | exact c2
      | exact c3 (by simpa using ‹(!fr) = false›) (by simpa using ‹(!ok) = false›)
      | (have := hlen _ ‹_› ‹_›; simp only [maxLen]; omega)
      | exact yes (by simpa using ‹(!fr) = false›) (by simpa using ‹(!ok) = false›) _ _ ((hok _ ‹_›).2.1 ‹_›) (hok _ ‹_›).1
      | exact nx _ (hok _ ‹_›).1 (fun _ _ => (hok _ ‹_›).2.2 ‹_›)
      | exact nx0 (fun h _ => absurd h (by have h2 := ‹(!fr) = true›; simp at h2; rw [h2]; decide))
      | exact nx0 (fun _ h => absurd h (by have h2 := ‹(!ok) = true›; simp at h2; rw [h2]; decide))
      | exact hat
      | exact hw
      | exact hins
      | exact Int.natCast_nonneg _
      | (exfalso; rename_i h; rw [hltz] at h; cases h; done)
      | omega
      | trace_state
end
section
variable (g : Gs) (bm b : Nat) (l : List En)
def fromR (a : Option (List Nat) × (Nat → Val → Bool)) : T := .tup [.sl 1 (nats (a.1.getD [])), bool a.1.isSome]
theorem from_step (hl : l.length ≤ 16) (hin : ∀ x ∈ l, In64 x.op.n) (m : Nat) (v : Val) (A : Nat → Val → Bool) (hm : m < 65536) (hv : v.t.length ≤ 100) (hd : Dead l A)
    (hr : ∀ k x v', l[k]? = some x → Free l m k x → next v x = some v' → ∀ A, Dead l A → TCalls Tryd.prog 15 [.ptr 4 b 0, .agg [u32 (ins m k : Nat), bool v'.h, str v'.t]] (obsJ g bm b (dF A) (Row.aggs enC l)) none_ (callPost (fromH g bm b l (Row.aggs enC l) (ins m k) v')))
    (Q : T → Obs → Glb → Prop) (hQ : ∀ a r, OkF l m v a → (r = fromR a ∨ a.1.getD [] = [] ∧ r = .tup [.v nilS, bool a.1.isSome]) → Q r (obsJ g bm b (dF a.2) (Row.aggs enC l)) none_) :
    TCalls Tryd.prog 15 [.ptr 4 b 0, .agg [u32 m, bool v.h, str v.t]] (obsJ g bm b (dF A) (Row.aggs enC l)) none_ Q := by
  obtain ⟨dn, hdn⟩ : ∃ c : Bool, (c = true ↔ Done l m) := by
    by_cases hf : Done l m
    · exact ⟨true, fun _ => hf, fun _ => rfl⟩
    · exact ⟨false, fun h => (by cases h), fun h => absurd h hf⟩
  have c0 : TCalls Tryd.prog 25 [.ptr 1 b 0, u32 m] (obsK bm b (dF A) (Row.aggs enC l)) none_ (callPost (told (bool dn) [3, 4] (obsK bm b (dF A) (Row.aggs enC l)))) := done_any bm b (dF A) l m _ hm hl (fun c hc => told_post (by
    have : c = dn := by rw [Bool.eq_iff_iff]; exact hc.trans hdn.symm
    rw [this]))
  have lp := fun (Γ : Ctx) (b3 : Nat) (hn : ¬ Done l m) => from_loop Γ g bm b b3 l m v Q hm hl hv hin hr
    (fun k x v' r A' h1 h2 h3 h4 h5 => hQ (some (k :: r), A') _ ⟨⟨x, v', h1, h2, h3, h4⟩, h5⟩ (.inl rfl))
    (fun hno A' h5 => by
      have hno2 : ∀ q, ¬ Jdg.From l m v q := fun q hq => by
        cases q with
        | nil => exact hn hq
        | cons k r =>
          obtain ⟨x, v', h1, h2, h3, h4⟩ := hq
          exact hno k x v' h1 h2 h3 r h4
      refine hQ (none, upD A' m v) _ ⟨hno2, fun m' v' h => ?_⟩ (.inr ⟨rfl, rfl⟩)
      unfold upD at h
      split at h
      · rename_i e
        obtain ⟨rfl, rfl⟩ := e
        exact hno2
      · exact h5 m' v' h)
    l [] A rfl hd (fun k x v' h => absurd h (Nat.not_lt_zero k))
  have hal : (Row.aggs enC l).length = l.length := Row.aggs_len l
  have qd : dn = true → Q (.tup [.v nilS, bool true]) (obsJ g bm b (dF A) (Row.aggs enC l)) none_ := fun h => hQ (some [], A) _ ⟨hdn.1 h, hd⟩ (.inr ⟨rfl, rfl⟩)
  have qf : A m v = true → Q (.tup [.v nilS, bool false]) (obsJ g bm b (dF A) (Row.aggs enC l)) none_ := fun h => hQ (none, A) _ ⟨hd m v h, hd⟩ (.inr ⟨rfl, rfl⟩)
  have hlk : (dF A (kS m v)).getD (bool false) = bool (A m v) := by
    rw [dF_at]
    cases A m v <;> rfl
  have hn : dn = false → ¬ Done l m := fun h hd => by rw [hdn.2 hd] at h; cases h
  have hhs := hasS m v
  have lp := fun Γ b3 h => lp Γ b3 (hn h)
  clear hQ hr hdn hn hd
  rw [← hal] at lp
  generalize A m v = dd at *
  unfold obsK at *
  unfold obsJ kS at *
  generalize Row.aggs enC l = L at *
  generalize tabC = TC at *
  generalize dF A = F at *
  refine TCalls.of Tryd.func15 rfl (CanCall.of Tryd.func15 rfl (by decide)) [0, 1, 2, 3, 4] fun Γ => ?_
  refine run_sound (⟨fun | 1, 3 => told (bool dn) [3, 4] [(bm, .kv kt GS F), (b, .cells [.sl 15 L, .mp 0 bm])] | 3, 5 => .res (bool dd) | _, _ => .no, [((2, 6), ([0, 3, 25, 26, 27], 6))], fun | 3 => some ⟨[4, 5], [], .take true [0,1,2,3,4] (.one 5 .done)⟩ | 11 => some ⟨[], [8], .take true [0,1,2,3,4,5,6,7] (.one 8 (.take false [9,10,11,12,13] .done))⟩ | 15 => some ⟨[], [5], .take true [0,1,2,3,4] (.one 5 .done)⟩ | _ => none⟩) 400 (B := ∀ (b_1 : Nat), b_1 = b_1 ∧ TCalls Tryd.prog (25 : Nat) [T.ptr (1 : Nat) b (0 : Nat), T.v (Value.int IntKind.u32 (↑m : Int))] [(bm, Ob.kv (62 : Nat) GS F), (b, Ob.cells [T.sl (15 : Nat) L, T.mp (0 : Nat) bm])] (fun x => none) (callPost (Hint.call false Unit (fun x => True) [(3 : Nat), (4 : Nat)] false (fun x => bool dn) (fun x => [(bm, Ob.kv kt GS F), (b, Ob.cells [T.sl (15 : Nat) L, T.mp (0 : Nat) bm])]) fun x => none_)) ∧ ∀ (a : Unit), True → bsplit dn (Q (T.tup [T.v (Value.slice none (0 : Nat) (0 : Nat)), T.v (Value.bool true)]) [((0 : Nat), Ob.whole TC (Gs.t1 g) (Gs.f1 g)), ((1 : Nat), Ob.whole #[Value.iface (Gs.tp g) (Gs.p g)] (Gs.t2 g) (Gs.f2 g)), ((2 : Nat), Ob.whole #[Value.iface (Gs.tq g) (Gs.q g)] (Gs.t3 g) (Gs.f3 g)), (bm, Ob.kv (62 : Nat) GS F), (b, Ob.cells [T.sl (15 : Nat) L, T.mp (3 : Nat) bm])] fun x => none) (b = b ∧ b_1 = b_1 ∧ (bm = bm ∧ KeyOk Tryd.prog (62 : Nat) GS ∧ HasK GS (Value.agg #[Value.int IntKind.u32 (↑m : Int), Value.bool (Val.h v), Value.string (ByteArray.mk (List.toArray (Val.t v)))])) ∧ some (if false = true then T.tup [Option.getD (F (Value.agg #[Value.int IntKind.u32 (↑m : Int), Value.bool (Val.h v), Value.string (ByteArray.mk (List.toArray (Val.t v)))])) (T.v (Value.bool false)), T.v (Value.bool (Option.isSome (F (Value.agg #[Value.int IntKind.u32 (↑m : Int), Value.bool (Val.h v), Value.string (ByteArray.mk (List.toArray (Val.t v)))]))))] else Option.getD (F (Value.agg #[Value.int IntKind.u32 (↑m : Int), Value.bool (Val.h v), Value.string (ByteArray.mk (List.toArray (Val.t v)))])) (T.v (Value.bool false))) = some (T.v (Value.bool dd)) ∧ bsplit dd (Q (T.tup [T.v (Value.slice none (0 : Nat) (0 : Nat)), T.v (Value.bool false)]) [((0 : Nat), Ob.whole TC (Gs.t1 g) (Gs.f1 g)), ((1 : Nat), Ob.whole #[Value.iface (Gs.tp g) (Gs.p g)] (Gs.t2 g) (Gs.f2 g)), ((2 : Nat), Ob.whole #[Value.iface (Gs.tq g) (Gs.q g)] (Gs.t3 g) (Gs.f3 g)), (bm, Ob.kv (62 : Nat) GS F), (b, Ob.cells [T.sl (15 : Nat) L, T.mp (3 : Nat) bm])] fun x => none) (b = b ∧ TWk Tryd.prog Γ (fin Tryd.prog Tryd.f15 [(0 : Nat), (1 : Nat), (2 : Nat), (3 : Nat), (4 : Nat)] Q) [It.code (sub (bd Tryd.f15) [(1 : Nat), (1 : Nat), (1 : Nat), (0 : Nat), (1 : Nat), (0 : Nat)]), It.blk (0 : Nat), It.code (sub (bd Tryd.f15) [(1 : Nat), (1 : Nat), (1 : Nat), (1 : Nat)])] { fr := [T.ptr (4 : Nat) b (0 : Nat), T.und, T.und, T.ptr (5 : Nat) b_1 (0 : Nat), T.und, T.und, T.und, T.und, T.und, T.und, T.und, T.und, T.und, T.und, T.und, T.und, T.und, T.und, T.und, T.und, T.und, T.und, T.und, T.und, T.und, T.sl (15 : Nat) L, T.v (Value.int IntKind.i64 (↑(List.length L) : Int)), T.v (Value.int IntKind.i64 (0 : Int)), T.und, T.und, T.und, T.und, T.und, T.und, T.und, T.und, T.und, T.und, T.und, T.und, T.und, T.und, T.und, T.und, T.und, T.und, T.und, T.und, T.und, T.und, T.und, T.und, T.und, T.und, T.und, T.und, T.und, T.und, T.und, T.und, T.und, T.und, T.und, T.und, T.und, T.und, T.und, T.und, T.und, T.und], ob := [((0 : Nat), Ob.whole TC (Gs.t1 g) (Gs.f1 g)), ((1 : Nat), Ob.whole #[Value.iface (Gs.tp g) (Gs.p g)] (Gs.t2 g) (Gs.f2 g)), ((2 : Nat), Ob.whole #[Value.iface (Gs.tq g) (Gs.q g)] (Gs.t3 g) (Gs.f3 g)), (bm, Ob.kv (62 : Nat) GS F), (b, Ob.cells [T.sl (15 : Nat) L, T.mp (3 : Nat) bm]), (b_1, Ob.cells [T.v (Value.int IntKind.u32 (↑m : Int)), T.v (Value.bool (Val.h v)), T.v (Value.string (ByteArray.mk (List.toArray (Val.t v))))])], gl := fun x => none }))) (by kernel_rfl) ?_
  repeat' (first | exact rfl | exact Nat.le_of_ble_eq_true rfl | refine And.intro ?_ ?_ | intro _ | refine bsplit_mk (fun _ => ?_) (fun _ => ?_))
  all_goals first
    | exact c0
    | exact keyOk
    | exact hhs
    | exact congrArg some hlk
    | exact qd ‹dn = true›
    | exact qf ‹dd = true›
    | exact lp Γ _ ‹dn = false›
    | trace_state
theorem from_any (hl : l.length ≤ 16) (hin : ∀ x ∈ l, In64 x.op.n) : ∀ (n m : Nat) (v : Val) (A : Nat → Val → Bool), Jdg.left l.length m ≤ n → m < 65536 → v.t.length ≤ 100 → Dead l A → TCalls Tryd.prog 15 [.ptr 4 b 0, .agg [u32 m, bool v.h, str v.t]] (obsJ g bm b (dF A) (Row.aggs enC l)) none_ (callPost (fromH g bm b l (Row.aggs enC l) m v)) := by
  intro n
  induction n with
  | zero =>
    intro m v A hn hm hv hd
    refine TCalls.post (from_step g bm b l hl hin m v A hm hv hd (fun k x v' hx hf hnx A' hd' => ?_) (fun r ob gl => ∃ a, OkF l m v a ∧ (r = fromR a ∨ a.1.getD [] = [] ∧ r = .tup [.v nilS, bool a.1.isSome]) ∧ ob = obsJ g bm b (dF a.2) (Row.aggs enC l) ∧ gl = none_) (fun a r h1 h2 => ⟨a, h1, h2, rfl, rfl⟩)) ?_
    · have := Jdg.left_ins (List.getElem?_eq_some_iff.1 hx).1 hf.1
      omega
    · rintro r ob gl ⟨a, h1, h2, rfl, rfl⟩
      rcases h2 with rfl | ⟨h2, rfl⟩
      · exact ⟨_, _, _, Imp.refl _ _ _, a, h1, rfl, rfl, Nat.le_of_ble_eq_true rfl, fun e => by cases e⟩
      · exact ⟨_, _, _, imp_nil _ _ _, a, h1, by show _ = T.tup [.sl 1 (nats (a.1.getD [])), bool a.1.isSome]; rw [h2]; rfl, rfl, Nat.le_of_ble_eq_true rfl, fun e => by cases e⟩
  | succ n ih =>
    intro m v A hn hm hv hd
    refine TCalls.post (from_step g bm b l hl hin m v A hm hv hd (fun k x v' hx hf hnx A' hd' => ?_) (fun r ob gl => ∃ a, OkF l m v a ∧ (r = fromR a ∨ a.1.getD [] = [] ∧ r = .tup [.v nilS, bool a.1.isSome]) ∧ ob = obsJ g bm b (dF a.2) (Row.aggs enC l) ∧ gl = none_) (fun a r h1 h2 => ⟨a, h1, h2, rfl, rfl⟩)) ?_
    · have hk := (List.getElem?_eq_some_iff.1 hx).1
      have := Jdg.left_ins hk hf.1
      refine ih (ins m k) v' A' (by omega) (Jdg.ins_lt hm (by omega)) ?_ hd'
      unfold Jdg.next at hnx
      split at hnx
      · obtain rfl := Option.some.inj hnx
        exact Reg.applyR_len hv _
      · cases hnx
    · rintro r ob gl ⟨a, h1, h2, rfl, rfl⟩
      rcases h2 with rfl | ⟨h2, rfl⟩
      · exact ⟨_, _, _, Imp.refl _ _ _, a, h1, rfl, rfl, Nat.le_of_ble_eq_true rfl, fun e => by cases e⟩
      · exact ⟨_, _, _, imp_nil _ _ _, a, h1, by show _ = T.tup [.sl 1 (nats (a.1.getD [])), bool a.1.isSome]; rw [h2]; rfl, rfl, Nat.le_of_ble_eq_true rfl, fun e => by cases e⟩
theorem dF_none : dF (fun _ _ => false) = fun _ => none := by
  funext z
  unfold dF
  split
  · rw [if_neg (fun h => by cases h.2)]
  · rfl
def OkL (l : List En) (v : Val) : Option (List Nat) → Prop
  | some q => Jdg.From l 0 v q
  | none => ∀ q, ¬ Jdg.From l 0 v q
def linH (g : Gs) (l : List En) (v : Val) : Hint := .call false (Option (List Nat)) (fun a => OkL l v a) [0, 1, 2] false (fun a => .tup [.sl 1 (nats (a.getD [])), bool a.isSome, int 0]) (fun _ => obsG g) (fun _ => none_)
theorem linear_any (hl : l.length ≤ 16) (hin : ∀ x ∈ l, In64 x.op.n) (v : Val) (hv : v.t.length ≤ 100) : TCalls Tryd.prog 9 [.agg (vC v), .sl 15 (Row.aggs enC l)] (obsG g) none_ (callPost (linH g l v)) := by
  have hQ : ∀ a, OkL l v a → callPost (linH g l v) (.tup [.sl 1 (nats (a.getD [])), bool a.isSome, int 0]) (obsG g) none_ := fun a h => ⟨a, h, rfl, rfl, Nat.le_of_ble_eq_true rfl, fun e => by cases e⟩
  generalize callPost (linH g l v) = Q at *
  have c1 := fun bm b => from_any g bm b l hl hin (Jdg.left l.length 0) 0 v (fun _ _ => false) (Nat.le_refl _) (by decide) hv (fun m v h => by cases h)
  rw [dF_none] at c1
  have hal : (Row.aggs enC l).length = l.length := Row.aggs_len l
  have hlz : decide (((Row.aggs enC l).length : Int) > 16) = false := decide_eq_false (by omega)
  have hq : ∀ a : Option (List Nat) × (Nat → Val → Bool), OkF l 0 v a → OkL l v a.1 := fun ⟨o, A⟩ h => by
    cases o with
    | some q => exact h.1
    | none => exact h.1
  have hQ := fun (a : Option (List Nat) × (Nat → Val → Bool)) h => hQ a.1 (hq a h)
  unfold vC fromH at *
  unfold obsJ at *
  unfold obsG at *
  generalize Row.aggs enC l = L at *
  generalize tabC = TC at *
  refine TCalls.of Tryd.func9 rfl (CanCall.of Tryd.func9 rfl (by decide)) [0, 1, 2] fun Γ => ?_
  refine run_sound (⟨fun | 3, 1 => .kv GS | 4, 3 => .withB fun B => .call false (Option (List Nat) × (Nat → Val → Bool)) (fun a => OkF l 0 v a) [0, 1, 2, 4, 5] false (fun a => .tup [.sl 1 (nats (a.1.getD [])), bool a.1.isSome]) (fun a => [(0, .whole TC g.t1 g.f1), (1, .whole #[.iface g.tp g.p] g.t2 g.f2), (2, .whole #[.iface g.tq g.q] g.t3 g.f3), (B.getD 4 0, .kv kt GS (dF a.2)), (B.getD 5 0, .cells [.sl 15 L, .mp 3 (B.getD 4 0)])]) (fun _ => none_) | _, _ => .no, [], fun  | _ => none⟩) 400 (B := ∀ (b : Nat), bsplit (decide ((↑(List.length L) : Int) > (16 : Int))) (Q (T.tup [T.v (Value.slice none (0 : Nat) (0 : Nat)), T.v (Value.bool false), T.v (Value.int IntKind.i64 (6 : Int))]) [((0 : Nat), Ob.whole TC (Gs.t1 g) (Gs.f1 g)), ((1 : Nat), Ob.whole #[Value.iface (Gs.tp g) (Gs.p g)] (Gs.t2 g) (Gs.f2 g)), ((2 : Nat), Ob.whole #[Value.iface (Gs.tq g) (Gs.q g)] (Gs.t3 g) (Gs.f3 g))] fun x => none) (∀ (b_1 b_2 : Nat), b = b ∧ TCalls Tryd.prog (15 : Nat) [T.ptr (4 : Nat) b_2 (0 : Nat), T.agg [T.v (Value.int IntKind.u32 (0 : Int)), T.v (Value.bool (Val.h v)), T.v (Value.string (ByteArray.mk (List.toArray (Val.t v))))]] [((0 : Nat), Ob.whole TC (Gs.t1 g) (Gs.f1 g)), ((1 : Nat), Ob.whole #[Value.iface (Gs.tp g) (Gs.p g)] (Gs.t2 g) (Gs.f2 g)), ((2 : Nat), Ob.whole #[Value.iface (Gs.tq g) (Gs.q g)] (Gs.t3 g) (Gs.f3 g)), (b_1, Ob.kv (62 : Nat) GS fun x => none), (b_2, Ob.cells [T.sl (15 : Nat) L, T.mp (3 : Nat) b_1])] (fun x => none) (callPost (Hint.call false (Option (List Nat) × (Nat → Val → Bool)) (fun a => OkF l (0 : Nat) v a) [(0 : Nat), (1 : Nat), (2 : Nat), (4 : Nat), (5 : Nat)] false (fun a => T.tup [T.sl (1 : Nat) (nats (Option.getD (Prod.fst a) [])), bool (Option.isSome (Prod.fst a))]) (fun a => [((0 : Nat), Ob.whole TC (Gs.t1 g) (Gs.f1 g)), ((1 : Nat), Ob.whole #[Value.iface (Gs.tp g) (Gs.p g)] (Gs.t2 g) (Gs.f2 g)), ((2 : Nat), Ob.whole #[Value.iface (Gs.tq g) (Gs.q g)] (Gs.t3 g) (Gs.f3 g)), (b_1, Ob.kv kt GS (dF (Prod.snd a))), (b_2, Ob.cells [T.sl (15 : Nat) L, T.mp (3 : Nat) b_1])]) fun x => none_)) ∧ ∀ (a : Option (List Nat) × (Nat → Val → Bool)), OkF l (0 : Nat) v a → Q (T.tup [T.sl (1 : Nat) (nats (Option.getD (Prod.fst a) [])), T.v (Value.bool (Option.isSome (Prod.fst a))), T.v (Value.int IntKind.i64 (0 : Int))]) [((0 : Nat), Ob.whole TC (Gs.t1 g) (Gs.f1 g)), ((1 : Nat), Ob.whole #[Value.iface (Gs.tp g) (Gs.p g)] (Gs.t2 g) (Gs.f2 g)), ((2 : Nat), Ob.whole #[Value.iface (Gs.tq g) (Gs.q g)] (Gs.t3 g) (Gs.f3 g))] fun x => none)) (by kernel_rfl) ?_
  repeat' (first | exact rfl | exact Nat.le_of_ble_eq_true rfl | refine And.intro ?_ ?_ | intro _ | refine bsplit_mk (fun _ => ?_) (fun _ => ?_))
  all_goals first
    | exact keyOk
    | exact c1 _ _
    | exact hQ _ ‹_›
    | (exfalso; rename_i h; rw [hlz] at h; cases h; done)
    | trace_state
theorem linear_long (hl : 16 < l.length) (v : Val) : TCalls Tryd.prog 9 [.agg (vC v), .sl 15 (Row.aggs enC l)] (obsG g) none_ (callPost (told (.tup [.v nilS, bool false, int 6]) [0, 1, 2] (obsG g))) := by
  have hQ : ∀ y, y = .tup [.v nilS, bool false, int 6] → callPost (told (.tup [.v nilS, bool false, int 6]) [0, 1, 2] (obsG g)) y (obsG g) none_ := fun y h => told_post h
  generalize callPost (told (.tup [.v nilS, bool false, int 6]) [0, 1, 2] (obsG g)) = Q at *
  have hal : (Row.aggs enC l).length = l.length := Row.aggs_len l
  have hlz : decide (((Row.aggs enC l).length : Int) > 16) = true := decide_eq_true (by omega)
  have hQ := hQ _ rfl
  unfold vC at *
  unfold obsG at *
  generalize Row.aggs enC l = L at *
  generalize tabC = TC at *
  refine TCalls.of Tryd.func9 rfl (CanCall.of Tryd.func9 rfl (by decide)) [0, 1, 2] fun Γ => ?_
  refine run_sound (⟨fun | 3, 1 => .kv GS | _, _ => .no, [], fun  | _ => none⟩) 400 (B := ∀ (b : Nat), bsplit (decide ((↑(List.length L) : Int) > (16 : Int))) (Q (T.tup [T.v (Value.slice none (0 : Nat) (0 : Nat)), T.v (Value.bool false), T.v (Value.int IntKind.i64 (6 : Int))]) [((0 : Nat), Ob.whole TC (Gs.t1 g) (Gs.f1 g)), ((1 : Nat), Ob.whole #[Value.iface (Gs.tp g) (Gs.p g)] (Gs.t2 g) (Gs.f2 g)), ((2 : Nat), Ob.whole #[Value.iface (Gs.tq g) (Gs.q g)] (Gs.t3 g) (Gs.f3 g))] fun x => none) (∀ (b_1 b_2 : Nat), b = b ∧ False)) (by kernel_rfl) ?_
  repeat' (first | exact rfl | exact Nat.le_of_ble_eq_true rfl | refine And.intro ?_ ?_ | intro _ | refine bsplit_mk (fun _ => ?_) (fun _ => ?_))
  all_goals first
    | exact hQ
    | (exfalso; have h := ‹decide ((L.length : Int) > 16) = false›; rw [hlz] at h; cases h; done)
    | trace_state
end
end X27
end Go.Proofs.YtfealopjdkilfaaDoor.Vm
