/- Judge by the engine: a search's done and free. -/
import Derived.Test.YtfealopjdkilfaaDoorJgA
namespace Go.Proofs.YtfealopjdkilfaaDoor.Vm
open Go Go.RowKit
set_option maxRecDepth 100000
namespace X27
open Reg (Val Res In64 applyR)
open Jdg (En never sure fits next Done Free)
/-! states of a search as keys -/
def kS (m : Nat) (v : Val) : Value := .agg #[.int .u32 m, .bool v.h, .string ⟨v.t.toArray⟩]
def GS (v : Value) : Prop := ∃ (a : Int) (b : Bool) (s : ByteArray), v = .agg #[.int .u32 a, .bool b, .string s]
abbrev kt : TypeId := 62
theorem keyOk : KeyOk Tryd.prog kt GS where
  td := ⟨_, Tryd.underlying62, rfl⟩
  eq := fun x y ⟨a, b, s, hx⟩ ⟨c, d, t, hy⟩ => by
    subst hx hy
    refine ⟨(a == c) && ((b == d && (s.toList == t.toList && true)) && true), by kernel_rfl, ?_⟩
    rw [str_same]
    simp
  ck := fun x ⟨a, b, s, hx⟩ e w => by
    subst hx
    exact prun_run (by cases e <;> kernel_rfl) w
  same := fun x ⟨a, b, s, hx⟩ => by
    subst hx
    have h : (s == s) = true := by show (s.data == s.data) = true; simp
    simp [Instr.sameBits, h]
def dF (A : Nat → Val → Bool) : Value → Option T
  | .agg ⟨[.int .u32 a, .bool b, .string s]⟩ => if 0 ≤ a ∧ A a.toNat ⟨b, s.data.toList⟩ = true then some (bool true) else none
  | _ => none
theorem dF_at (A : Nat → Val → Bool) (m : Nat) (v : Val) : dF A (kS m v) = if A m v = true then some (bool true) else none := by
  show (if 0 ≤ (m : Int) ∧ A (m : Int).toNat ⟨v.h, (⟨v.t.toArray⟩ : ByteArray).data.toList⟩ = true then some (bool true) else none) = _
  have e : (⟨v.t.toArray⟩ : ByteArray).data.toList = v.t := by show v.t.toArray.toList = _; simp
  rw [e, Int.toNat_natCast]
  by_cases h : A m v = true
  · rw [if_pos ⟨Int.natCast_nonneg _, h⟩, if_pos h]
  · rw [if_neg (fun k => h k.2), if_neg h]
def upD (A : Nat → Val → Bool) (m : Nat) (v : Val) : Nat → Val → Bool := fun m' v' => if m' = m ∧ v' = v then true else A m' v'
theorem dF_upd (A : Nat → Val → Bool) (m : Nat) (v : Val) : UpdK (dF (upD A m v)) (dF A) (kS m v) (bool true) := by
  refine ⟨?_, fun z hz => ?_⟩
  · rw [dF_at]
    unfold upD
    rw [if_pos (if_pos ⟨rfl, rfl⟩)]
  · unfold dF
    split
    · rename_i x y s
      by_cases h0 : 0 ≤ x
      · have e : upD A m v x.toNat ⟨y, s.data.toList⟩ = A x.toNat ⟨y, s.data.toList⟩ := by
          unfold upD
          rw [if_neg]
          intro e12
          apply hz
          obtain ⟨e1, e2⟩ := e12
          subst e2
          subst e1
          unfold kS
          rw [Int.toNat_of_nonneg h0]
        rw [e]
      · rw [if_neg (fun h => h0 h.1), if_neg (fun h => h0 h.1)]
    · rfl
theorem hasS (m : Nat) (v : Val) : HasK GS (kS m v) := ⟨m, v.h, ⟨v.t.toArray⟩, rfl⟩
def obsK (bm b : Nat) (F : Value → Option T) (L : List T) : Obs := [(bm, .kv kt GS F), (b, .cells [.sl 15 L, .mp 0 bm])]
section
variable (Γ : Ctx) (bm b : Nat) (F : Value → Option T) (l : List En) (m : Nat) (Q : T → Obs → Glb → Prop)
theorem done_loop (hm : m < 65536) (hl : l.length ≤ 16) (hQ : ∀ c : Bool, (c = true ↔ Done l m) → Q (bool c) (obsK bm b F (Row.aggs enC l)) none_) : ∀ (r d : List En), l = d ++ r → (∀ i x, i < d.length → l[i]? = some x → sure x = true → m.testBit i = true) →
    TWk Tryd.prog Γ (fin Tryd.prog Tryd.f25 [0, 1] Q) [.code (sub (bd Tryd.f25) [1, 0, 1, 0]), .blk 0, .code (sub (bd Tryd.f25) [1, 1])] ⟨frame 26 [(1, u32 m), (10, .sl 15 (Row.aggs enC l)), (11, int l.length), (12, int d.length)], obsK bm b F (Row.aggs enC l), none_⟩ := by
  intro r
  induction r with
  | nil =>
    intro d h hi
    have hQ := hQ true ⟨fun _ i x hx hs => hi i x (by have := (List.getElem?_eq_some_iff.1 hx).1; rw [h] at this; simpa using this) hx hs, fun _ => rfl⟩
    have hlt : (d.length : Int) = (l.length : Int) := by rw [h]; simp
    rw [hlt]
    clear h hi hlt
    unfold obsK at *
    generalize Row.aggs enC l = L at *
    generalize (l.length : Int) = n at *
    refine run_sound (⟨fun | 3, 1 => .res (.agg [int 0, int 0, int 0, int 0, int 0, int 0, int 0, int 0, int 0, int 0, int 0, int 0, int 0, int 0, int 0]) | _, _ => .no, [((2, 2), ([1, 10, 11, 12], 2))], fun  | _ => none⟩) 400 (B := bsplit (decide (n < n)) ((0 : Int) ≤ n ∧ L[Int.toNat n]? = some (T.agg [T.v (Value.int IntKind.i64 (0 : Int)), T.v (Value.int IntKind.i64 (0 : Int)), T.v (Value.int IntKind.i64 (0 : Int)), T.v (Value.int IntKind.i64 (0 : Int)), T.v (Value.int IntKind.i64 (0 : Int)), T.v (Value.int IntKind.i64 (0 : Int)), T.v (Value.int IntKind.i64 (0 : Int)), T.v (Value.int IntKind.i64 (0 : Int)), T.v (Value.int IntKind.i64 (0 : Int)), T.v (Value.int IntKind.i64 (0 : Int)), T.v (Value.int IntKind.i64 (0 : Int)), T.v (Value.int IntKind.i64 (0 : Int)), T.v (Value.int IntKind.i64 (0 : Int)), T.v (Value.int IntKind.i64 (0 : Int)), T.v (Value.int IntKind.i64 (0 : Int))]) ∧ ∀ (b : Nat), ((15 : Nat) = nat_lit 15 ∧ List.all [T.v (Value.int IntKind.i64 (0 : Int)), T.v (Value.int IntKind.i64 (0 : Int)), T.v (Value.int IntKind.i64 (0 : Int)), T.v (Value.int IntKind.i64 (0 : Int)), T.v (Value.int IntKind.i64 (0 : Int)), T.v (Value.int IntKind.i64 (0 : Int)), T.v (Value.int IntKind.i64 (0 : Int)), T.v (Value.int IntKind.i64 (0 : Int)), T.v (Value.int IntKind.i64 (0 : Int)), T.v (Value.int IntKind.i64 (0 : Int)), T.v (Value.int IntKind.i64 (0 : Int)), T.v (Value.int IntKind.i64 (0 : Int)), T.v (Value.int IntKind.i64 (0 : Int)), T.v (Value.int IntKind.i64 (0 : Int)), T.v (Value.int IntKind.i64 (0 : Int))] T.one = true) ∧ b = b ∧ (0 : Nat) + nat_lit 15 ≤ (15 : Nat) ∧ b = b ∧ False) (Q (T.v (Value.bool true)) [(bm, Ob.kv (62 : Nat) GS F), (b, Ob.cells [T.sl (15 : Nat) L, T.mp (0 : Nat) bm])] fun x => none)) (by kernel_rfl) ?_
    repeat' (first | exact rfl | exact Nat.le_of_ble_eq_true rfl | refine And.intro ?_ ?_ | intro _ | refine bsplit_mk (fun _ => ?_) (fun _ => ?_))
    all_goals first
      | exact hQ
      | (exfalso; simp at *; done)
      | trace_state
  | cons x r ih =>
    intro d h hi
    have hx : l[d.length]? = some x := by rw [h]; simp
    have hlt : d.length < l.length := (List.getElem?_eq_some_iff.1 hx).1
    have hat : (Row.aggs enC l)[(d.length : Int).toNat]? = some (.agg (enC x)) := Row.aggs_at (by rw [Int.toNat_natCast]; exact hx)
    have hal : (Row.aggs enC l).length = l.length := Row.aggs_len l
    have nx := fun hs : sure x = true → m.testBit d.length = true => ih (d ++ [x]) (by rw [h]; simp) (fun i y hil hy hys => by
      rw [List.length_append, List.length_singleton] at hil
      by_cases e : i = d.length
      · subst e
        obtain rfl := Option.some.inj (hx.symm.trans hy)
        exact hs hys
      · exact hi i y (by omega) hy hys)
    rw [show (d ++ [x]).length = d.length + 1 by simp] at nx
    have no := fun (hs : sure x = true) (ht : m.testBit d.length = false) => hQ false ⟨fun h => (by cases h), fun hd => by have := hd d.length x hx hs; rw [ht] at this; cases this⟩
    have c1 := sure_post x
    have c2 := has_post m d.length hm (by omega)
    have hw : T.v (.int .i64 (IntKind.wrap .i64 ((d.length : Int) + 1))) = int (d.length + 1 : Nat) := congrArg int (by rw [wrap_i64 (by omega) (by omega)]; omega)
    have hltz : decide ((d.length : Int) < (l.length : Int)) = true := decide_eq_true (by omega)
    clear ih hQ h hi
    generalize sure x = sx at *
    generalize m.testBit d.length = tb at *
    unfold obsK at *
    generalize Row.aggs enC l = L at *
    unfold enC at *
    generalize d.length = k at *
    generalize l.length = n at *
    refine run_sound (⟨fun | 3, 1 => .res (.agg [int x.op.k, int x.op.key, str x.op.t, bool x.op.o.h, str x.op.o.t, int x.op.n, int x.s, int x.e, int x.er, bool x.av.h, str x.av.t, u32 0, u8 0, u8 0, bool x.w]) | 4, 1 => told (bool sx) [] [] | 4, 5 => told (bool tb) [] [] | 6, 0 => .res (int (k + 1 : Nat)) | _, _ => .no, [((2, 2), ([1, 10, 11, 12], 2))], fun  | _ => none⟩) 400 (B := bsplit (decide ((↑k : Int) < (↑n : Int))) ((0 : Int) ≤ (↑k : Int) ∧ L[Int.toNat (↑k : Int)]? = some (T.agg [T.v (Value.int IntKind.i64 (Reg.Op.k (En.op x))), T.v (Value.int IntKind.i64 (Reg.Op.key (En.op x))), T.v (Value.string (ByteArray.mk (List.toArray (Reg.Op.t (En.op x))))), T.v (Value.bool (Val.h (Reg.Op.o (En.op x)))), T.v (Value.string (ByteArray.mk (List.toArray (Val.t (Reg.Op.o (En.op x)))))), T.v (Value.int IntKind.i64 (Reg.Op.n (En.op x))), T.v (Value.int IntKind.i64 (En.s x)), T.v (Value.int IntKind.i64 (En.e x)), T.v (Value.int IntKind.i64 (En.er x)), T.v (Value.bool (Val.h (En.av x))), T.v (Value.string (ByteArray.mk (List.toArray (Val.t (En.av x))))), T.v (Value.int IntKind.u32 (0 : Int)), T.v (Value.int IntKind.u8 (0 : Int)), T.v (Value.int IntKind.u8 (0 : Int)), T.v (Value.bool (En.w x))]) ∧ ∀ (b_1 : Nat), ((15 : Nat) = nat_lit 15 ∧ List.all [T.v (Value.int IntKind.i64 (Reg.Op.k (En.op x))), T.v (Value.int IntKind.i64 (Reg.Op.key (En.op x))), T.v (Value.string (ByteArray.mk (List.toArray (Reg.Op.t (En.op x))))), T.v (Value.bool (Val.h (Reg.Op.o (En.op x)))), T.v (Value.string (ByteArray.mk (List.toArray (Val.t (Reg.Op.o (En.op x)))))), T.v (Value.int IntKind.i64 (Reg.Op.n (En.op x))), T.v (Value.int IntKind.i64 (En.s x)), T.v (Value.int IntKind.i64 (En.e x)), T.v (Value.int IntKind.i64 (En.er x)), T.v (Value.bool (Val.h (En.av x))), T.v (Value.string (ByteArray.mk (List.toArray (Val.t (En.av x))))), T.v (Value.int IntKind.u32 (0 : Int)), T.v (Value.int IntKind.u8 (0 : Int)), T.v (Value.int IntKind.u8 (0 : Int)), T.v (Value.bool (En.w x))] T.one = true) ∧ b_1 = b_1 ∧ (0 : Nat) + nat_lit 15 ≤ (15 : Nat) ∧ b_1 = b_1 ∧ TCalls Tryd.prog (18 : Nat) [T.agg [T.v (Value.int IntKind.i64 (Reg.Op.k (En.op x))), T.v (Value.int IntKind.i64 (Reg.Op.key (En.op x))), T.v (Value.string (ByteArray.mk (List.toArray (Reg.Op.t (En.op x))))), T.v (Value.bool (Val.h (Reg.Op.o (En.op x)))), T.v (Value.string (ByteArray.mk (List.toArray (Val.t (Reg.Op.o (En.op x)))))), T.v (Value.int IntKind.i64 (Reg.Op.n (En.op x))), T.v (Value.int IntKind.i64 (En.s x)), T.v (Value.int IntKind.i64 (En.e x)), T.v (Value.int IntKind.i64 (En.er x)), T.v (Value.bool (Val.h (En.av x))), T.v (Value.string (ByteArray.mk (List.toArray (Val.t (En.av x))))), T.v (Value.int IntKind.u32 (0 : Int)), T.v (Value.int IntKind.u8 (0 : Int)), T.v (Value.int IntKind.u8 (0 : Int)), T.v (Value.bool (En.w x))]] [] (fun x => none) (callPost (Hint.call false Unit (fun x => True) [] false (fun x => bool sx) (fun x => []) fun x => none_)) ∧ ∀ (a : Unit), True → bsplit sx (TCalls Tryd.prog (31 : Nat) [T.v (Value.int IntKind.u32 (↑m : Int)), T.v (Value.int IntKind.i64 (↑k : Int))] [] (fun x => none) (callPost (Hint.call false Unit (fun x => True) [] false (fun x => bool tb) (fun x => []) fun x => none_)) ∧ ∀ (a : Unit), True → bsplit (!tb) (Q (T.v (Value.bool false)) [(bm, Ob.kv (62 : Nat) GS F), (b, Ob.cells [T.sl (15 : Nat) L, T.mp (0 : Nat) bm])] fun x => none) (T.v (Value.int IntKind.i64 (IntKind.wrap IntKind.i64 ((↑k : Int) + (1 : Int)))) = T.v (Value.int IntKind.i64 (↑(k + (1 : Nat)) : Int)) ∧ TWk Tryd.prog Γ (fin Tryd.prog Tryd.f25 [(0 : Nat), (1 : Nat)] Q) [It.code (sub (bd Tryd.f25) [(1 : Nat), (0 : Nat), (1 : Nat), (0 : Nat)]), It.blk (0 : Nat), It.code (sub (bd Tryd.f25) [(1 : Nat), (1 : Nat)])] { fr := [T.und, T.v (Value.int IntKind.u32 (↑m : Int)), T.und, T.und, T.und, T.und, T.und, T.und, T.und, T.und, T.sl (15 : Nat) L, T.v (Value.int IntKind.i64 (↑n : Int)), T.v (Value.int IntKind.i64 (↑(k + (1 : Nat)) : Int)), T.und, T.und, T.und, T.und, T.und, T.und, T.und, T.und, T.und, T.und, T.und, T.und, T.und], ob := [(bm, Ob.kv (62 : Nat) GS F), (b, Ob.cells [T.sl (15 : Nat) L, T.mp (0 : Nat) bm])], gl := fun x => none })) (T.v (Value.int IntKind.i64 (IntKind.wrap IntKind.i64 ((↑k : Int) + (1 : Int)))) = T.v (Value.int IntKind.i64 (↑(k + (1 : Nat)) : Int)) ∧ TWk Tryd.prog Γ (fin Tryd.prog Tryd.f25 [(0 : Nat), (1 : Nat)] Q) [It.code (sub (bd Tryd.f25) [(1 : Nat), (0 : Nat), (1 : Nat), (0 : Nat)]), It.blk (0 : Nat), It.code (sub (bd Tryd.f25) [(1 : Nat), (1 : Nat)])] { fr := [T.und, T.v (Value.int IntKind.u32 (↑m : Int)), T.und, T.und, T.und, T.und, T.und, T.und, T.und, T.und, T.sl (15 : Nat) L, T.v (Value.int IntKind.i64 (↑n : Int)), T.v (Value.int IntKind.i64 (↑(k + (1 : Nat)) : Int)), T.und, T.und, T.und, T.und, T.und, T.und, T.und, T.und, T.und, T.und, T.und, T.und, T.und], ob := [(bm, Ob.kv (62 : Nat) GS F), (b, Ob.cells [T.sl (15 : Nat) L, T.mp (0 : Nat) bm])], gl := fun x => none })) (Q (T.v (Value.bool true)) [(bm, Ob.kv (62 : Nat) GS F), (b, Ob.cells [T.sl (15 : Nat) L, T.mp (0 : Nat) bm])] fun x => none)) (by kernel_rfl) ?_
    repeat' (first | exact rfl | exact Nat.le_of_ble_eq_true rfl | refine And.intro ?_ ?_ | intro _ | refine bsplit_mk (fun _ => ?_) (fun _ => ?_))
    all_goals first
      | exact c1
      | exact c2
      | exact hat
      | exact hw
      | exact Int.natCast_nonneg _
      | exact no ‹sx = true› (by simpa using ‹(!tb) = true›)
      | exact nx (fun _ => by simpa using ‹(!tb) = false›)
      | exact nx (fun h => absurd (h.symm.trans ‹sx = false›) (by decide))
      | (exfalso; rename_i h; rw [hltz] at h; cases h; done)
      | omega
      | trace_state
theorem done_any (hm : m < 65536) (hl : l.length ≤ 16) (hQ : ∀ c : Bool, (c = true ↔ Done l m) → Q (bool c) (obsK bm b F (Row.aggs enC l)) none_) : TCalls Tryd.prog 25 [.ptr 1 b 0, u32 m] (obsK bm b F (Row.aggs enC l)) none_ Q := by
  have lp := fun Γ => done_loop Γ bm b F l m Q hm hl hQ l [] rfl (fun i x h => absurd h (Nat.not_lt_zero i))
  have hal : (Row.aggs enC l).length = l.length := Row.aggs_len l
  clear hQ
  rw [← hal] at lp
  unfold obsK at *
  generalize Row.aggs enC l = L at *
  refine TCalls.of Tryd.func25 rfl (CanCall.of Tryd.func25 rfl (by decide)) [0, 1] fun Γ => ?_
  refine run_sound (⟨fun _ _ => .no, [((2, 2), ([1, 10, 11, 12], 2))], fun _ => none⟩) 400 (B := b = b ∧ TWk Tryd.prog Γ (fin Tryd.prog Tryd.f25 [(0 : Nat), (1 : Nat)] Q) [It.code (sub (bd Tryd.f25) [(1 : Nat), (0 : Nat), (1 : Nat), (0 : Nat)]), It.blk (0 : Nat), It.code (sub (bd Tryd.f25) [(1 : Nat), (1 : Nat)])] { fr := [T.und, T.v (Value.int IntKind.u32 (↑m : Int)), T.und, T.und, T.und, T.und, T.und, T.und, T.und, T.und, T.sl (15 : Nat) L, T.v (Value.int IntKind.i64 (↑(List.length L) : Int)), T.v (Value.int IntKind.i64 (0 : Int)), T.und, T.und, T.und, T.und, T.und, T.und, T.und, T.und, T.und, T.und, T.und, T.und, T.und], ob := [(bm, Ob.kv (62 : Nat) GS F), (b, Ob.cells [T.sl (15 : Nat) L, T.mp (0 : Nat) bm])], gl := fun x => none }) (by kernel_rfl) ?_
  repeat' (first | exact rfl | exact Nat.le_of_ble_eq_true rfl | refine And.intro ?_ ?_ | intro _ | refine bsplit_mk (fun _ => ?_) (fun _ => ?_))
  all_goals first
    | exact lp Γ
    | trace_state
/-- may an entry come next? -/
theorem free_loop (hm : m < 65536) (hl : l.length ≤ 16) (i : Nat) (x : En) (hx : l[i]? = some x) (h1 : m.testBit i = false) (h2 : never x = false) (hQ : ∀ c : Bool, (c = true ↔ Free l m i x) → Q (bool c) (obsK bm b F (Row.aggs enC l)) none_) : ∀ (r d : List En), l = d ++ r → (∀ k y, k < d.length → l[k]? = some y → k ≠ i → m.testBit k = false → sure y = true → Jdg.ahead y x = false) →
    TWk Tryd.prog Γ (fin Tryd.prog Tryd.f26 [0, 1] Q) [.code (sub (bd Tryd.f26) [1, 1, 0, 1, 0]), .blk 0, .code (sub (bd Tryd.f26) [1, 1, 1])] ⟨frame 57 [(0, .ptr 1 b 0), (1, u32 m), (2, int i), (25, .sl 15 (Row.aggs enC l)), (26, int l.length), (27, int d.length)], obsK bm b F (Row.aggs enC l), none_⟩ := by
  intro r
  induction r with
  | nil =>
    intro d h hi
    have hQ := hQ true ⟨fun _ => ⟨h1, h2, fun k y hk => hi k y (by have := (List.getElem?_eq_some_iff.1 hk).1; rw [h] at this; simpa using this) hk⟩, fun _ => rfl⟩
    have hlt : (d.length : Int) = (l.length : Int) := by rw [h]; simp
    rw [hlt]
    clear h hi hlt
    unfold obsK at *
    generalize Row.aggs enC l = L at *
    generalize (l.length : Int) = n at *
    refine run_sound (⟨fun | 5, 1 => .res (.agg [int 0, int 0, int 0, int 0, int 0, int 0, int 0, int 0, int 0, int 0, int 0, int 0, int 0, int 0, int 0]) | _, _ => .no, [((2, 4), ([0, 1, 2, 25, 26, 27], 2))], fun | 6 => some ⟨[1, 2], [22], .take true [0,1,2,3,4,5] (.one 6 (.take true [7,8,9,10] (.one 11 (.take true [12,13,14,15,16,17,18,19,20] (.one 21 (.one 22 (.take false [23] .done)))))))⟩ | _ => none⟩) 400 (B := bsplit (decide (n < n)) ((0 : Int) ≤ n ∧ L[Int.toNat n]? = some (T.agg [T.v (Value.int IntKind.i64 (0 : Int)), T.v (Value.int IntKind.i64 (0 : Int)), T.v (Value.int IntKind.i64 (0 : Int)), T.v (Value.int IntKind.i64 (0 : Int)), T.v (Value.int IntKind.i64 (0 : Int)), T.v (Value.int IntKind.i64 (0 : Int)), T.v (Value.int IntKind.i64 (0 : Int)), T.v (Value.int IntKind.i64 (0 : Int)), T.v (Value.int IntKind.i64 (0 : Int)), T.v (Value.int IntKind.i64 (0 : Int)), T.v (Value.int IntKind.i64 (0 : Int)), T.v (Value.int IntKind.i64 (0 : Int)), T.v (Value.int IntKind.i64 (0 : Int)), T.v (Value.int IntKind.i64 (0 : Int)), T.v (Value.int IntKind.i64 (0 : Int))]) ∧ ∀ (b_1 : Nat), ((15 : Nat) = nat_lit 15 ∧ List.all [T.v (Value.int IntKind.i64 (0 : Int)), T.v (Value.int IntKind.i64 (0 : Int)), T.v (Value.int IntKind.i64 (0 : Int)), T.v (Value.int IntKind.i64 (0 : Int)), T.v (Value.int IntKind.i64 (0 : Int)), T.v (Value.int IntKind.i64 (0 : Int)), T.v (Value.int IntKind.i64 (0 : Int)), T.v (Value.int IntKind.i64 (0 : Int)), T.v (Value.int IntKind.i64 (0 : Int)), T.v (Value.int IntKind.i64 (0 : Int)), T.v (Value.int IntKind.i64 (0 : Int)), T.v (Value.int IntKind.i64 (0 : Int)), T.v (Value.int IntKind.i64 (0 : Int)), T.v (Value.int IntKind.i64 (0 : Int)), T.v (Value.int IntKind.i64 (0 : Int))] T.one = true) ∧ b_1 = b_1 ∧ (0 : Nat) + nat_lit 15 ≤ (15 : Nat) ∧ bsplit (n != (↑i : Int)) False (TWk Tryd.prog Γ (fin Tryd.prog Tryd.f26 [(0 : Nat), (1 : Nat)] Q) [It.code (sub (bd Tryd.f26) [(1 : Nat), (1 : Nat), (0 : Nat), (1 : Nat), (0 : Nat)]), It.blk (0 : Nat), It.code (sub (bd Tryd.f26) [(1 : Nat), (1 : Nat), (1 : Nat)])] { fr := [T.ptr (1 : Nat) b (0 : Nat), T.v (Value.int IntKind.u32 (↑m : Int)), T.v (Value.int IntKind.i64 (↑i : Int)), T.und, T.und, T.und, T.und, T.und, T.und, T.und, T.und, T.und, T.und, T.und, T.und, T.und, T.und, T.und, T.und, T.und, T.und, T.und, T.und, T.und, T.und, T.sl (15 : Nat) L, T.v (Value.int IntKind.i64 n), T.v (Value.int IntKind.i64 (IntKind.wrap IntKind.i64 (n + (1 : Int)))), T.und, T.und, T.und, T.und, T.und, T.und, T.und, T.und, T.und, T.und, T.und, T.und, T.und, T.und, T.und, T.und, T.und, T.und, T.und, T.und, T.und, T.und, T.und, T.und, T.und, T.und, T.und, T.und, T.und], ob := [(bm, Ob.kv (62 : Nat) GS F), (b, Ob.cells [T.sl (15 : Nat) L, T.mp (0 : Nat) bm])], gl := fun x => none })) (Q (T.v (Value.bool true)) [(bm, Ob.kv (62 : Nat) GS F), (b, Ob.cells [T.sl (15 : Nat) L, T.mp (0 : Nat) bm])] fun x => none)) (by kernel_rfl) ?_
    repeat' (first | exact rfl | exact Nat.le_of_ble_eq_true rfl | refine And.intro ?_ ?_ | intro _ | refine bsplit_mk (fun _ => ?_) (fun _ => ?_))
    all_goals first
      | exact hQ
      | (exfalso; simp at *; done)
      | trace_state
  | cons y r ih =>
    intro d h hi
    have hy : l[d.length]? = some y := by rw [h]; simp
    have hlt : d.length < l.length := (List.getElem?_eq_some_iff.1 hy).1
    have hat : (Row.aggs enC l)[(d.length : Int).toNat]? = some (.agg (enC y)) := Row.aggs_at (by rw [Int.toNat_natCast]; exact hy)
    have hax : (Row.aggs enC l)[(i : Int).toNat]? = some (.agg (enC x)) := Row.aggs_at (by rw [Int.toNat_natCast]; exact hx)
    have hal : (Row.aggs enC l).length = l.length := Row.aggs_len l
    have nx := fun hs : d.length ≠ i → m.testBit d.length = false → sure y = true → Jdg.ahead y x = false => ih (d ++ [y]) (by rw [h]; simp) (fun k z hkl hz => by
      rw [List.length_append, List.length_singleton] at hkl
      by_cases e : k = d.length
      · subst e
        obtain rfl := Option.some.inj (hy.symm.trans hz)
        exact hs
      · exact hi k z (by omega) hz)
    rw [show (d ++ [y]).length = d.length + 1 by simp] at nx
    have no := fun (hki : d.length ≠ i) (ht : m.testBit d.length = false) (hs : sure y = true) (ha : Jdg.ahead y x = true) => hQ false ⟨fun h => (by cases h), fun hd => by have := hd.2.2 d.length y hy hki ht hs; rw [ha] at this; cases this⟩
    have c1 := sure_post y
    have c2 := has_post m d.length hm (by omega)
    have c3 := ahead_post y x
    have hw : T.v (.int .i64 (IntKind.wrap .i64 ((d.length : Int) + 1))) = int (d.length + 1 : Nat) := congrArg int (by rw [wrap_i64 (by omega) (by omega)]; omega)
    have hltz : decide ((d.length : Int) < (l.length : Int)) = true := decide_eq_true (by omega)
    clear ih hQ h hi hx h1 h2
    generalize Jdg.ahead y x = ax at *
    generalize sure y = sx at *
    generalize m.testBit d.length = tb at *
    unfold obsK at *
    generalize Row.aggs enC l = L at *
    unfold enC at *
    generalize d.length = k at *
    generalize l.length = n at *
    refine run_sound (⟨fun | 5, 1 => .res (.agg [int y.op.k, int y.op.key, str y.op.t, bool y.op.o.h, str y.op.o.t, int y.op.n, int y.s, int y.e, int y.er, bool y.av.h, str y.av.t, u32 0, u8 0, u8 0, bool y.w]) | 6, 6 => told (bool tb) [] [] | 6, 11 => told (bool sx) [] [] | 6, 20 => .res (.agg [int x.op.k, int x.op.key, str x.op.t, bool x.op.o.h, str x.op.o.t, int x.op.n, int x.s, int x.e, int x.er, bool x.av.h, str x.av.t, u32 0, u8 0, u8 0, bool x.w]) | 6, 22 => told (bool ax) [] [] | 8, 0 => .res (int (k + 1 : Nat)) | _, _ => .no, [((2, 4), ([0, 1, 2, 25, 26, 27], 2))], fun | 6 => some ⟨[1, 2], [22], .take true [0,1,2,3,4,5] (.one 6 (.take true [7,8,9,10] (.one 11 (.take true [12,13,14,15,16,17,18,19,20] (.one 21 (.one 22 (.take false [23] .done)))))))⟩ | _ => none⟩) 400 (B := bsplit (decide ((↑k : Int) < (↑n : Int))) ((0 : Int) ≤ (↑k : Int) ∧ L[Int.toNat (↑k : Int)]? = some (T.agg [T.v (Value.int IntKind.i64 (Reg.Op.k (En.op y))), T.v (Value.int IntKind.i64 (Reg.Op.key (En.op y))), T.v (Value.string (ByteArray.mk (List.toArray (Reg.Op.t (En.op y))))), T.v (Value.bool (Val.h (Reg.Op.o (En.op y)))), T.v (Value.string (ByteArray.mk (List.toArray (Val.t (Reg.Op.o (En.op y)))))), T.v (Value.int IntKind.i64 (Reg.Op.n (En.op y))), T.v (Value.int IntKind.i64 (En.s y)), T.v (Value.int IntKind.i64 (En.e y)), T.v (Value.int IntKind.i64 (En.er y)), T.v (Value.bool (Val.h (En.av y))), T.v (Value.string (ByteArray.mk (List.toArray (Val.t (En.av y))))), T.v (Value.int IntKind.u32 (0 : Int)), T.v (Value.int IntKind.u8 (0 : Int)), T.v (Value.int IntKind.u8 (0 : Int)), T.v (Value.bool (En.w y))]) ∧ ∀ (b_1 : Nat), ((15 : Nat) = nat_lit 15 ∧ List.all [T.v (Value.int IntKind.i64 (Reg.Op.k (En.op y))), T.v (Value.int IntKind.i64 (Reg.Op.key (En.op y))), T.v (Value.string (ByteArray.mk (List.toArray (Reg.Op.t (En.op y))))), T.v (Value.bool (Val.h (Reg.Op.o (En.op y)))), T.v (Value.string (ByteArray.mk (List.toArray (Val.t (Reg.Op.o (En.op y)))))), T.v (Value.int IntKind.i64 (Reg.Op.n (En.op y))), T.v (Value.int IntKind.i64 (En.s y)), T.v (Value.int IntKind.i64 (En.e y)), T.v (Value.int IntKind.i64 (En.er y)), T.v (Value.bool (Val.h (En.av y))), T.v (Value.string (ByteArray.mk (List.toArray (Val.t (En.av y))))), T.v (Value.int IntKind.u32 (0 : Int)), T.v (Value.int IntKind.u8 (0 : Int)), T.v (Value.int IntKind.u8 (0 : Int)), T.v (Value.bool (En.w y))] T.one = true) ∧ b_1 = b_1 ∧ (0 : Nat) + nat_lit 15 ≤ (15 : Nat) ∧ bsplit ((↑k : Int) != (↑i : Int)) (TCalls Tryd.prog (31 : Nat) [T.v (Value.int IntKind.u32 (↑m : Int)), T.v (Value.int IntKind.i64 (↑k : Int))] [] (fun x => none) (callPost (Hint.call false Unit (fun x => True) [] false (fun x => bool tb) (fun x => []) fun x => none_)) ∧ ∀ (a : Unit), True → bsplit (!tb) (b_1 = b_1 ∧ TCalls Tryd.prog (18 : Nat) [T.agg [T.v (Value.int IntKind.i64 (Reg.Op.k (En.op y))), T.v (Value.int IntKind.i64 (Reg.Op.key (En.op y))), T.v (Value.string (ByteArray.mk (List.toArray (Reg.Op.t (En.op y))))), T.v (Value.bool (Val.h (Reg.Op.o (En.op y)))), T.v (Value.string (ByteArray.mk (List.toArray (Val.t (Reg.Op.o (En.op y)))))), T.v (Value.int IntKind.i64 (Reg.Op.n (En.op y))), T.v (Value.int IntKind.i64 (En.s y)), T.v (Value.int IntKind.i64 (En.e y)), T.v (Value.int IntKind.i64 (En.er y)), T.v (Value.bool (Val.h (En.av y))), T.v (Value.string (ByteArray.mk (List.toArray (Val.t (En.av y))))), T.v (Value.int IntKind.u32 (0 : Int)), T.v (Value.int IntKind.u8 (0 : Int)), T.v (Value.int IntKind.u8 (0 : Int)), T.v (Value.bool (En.w y))]] [] (fun x => none) (callPost (Hint.call false Unit (fun x => True) [] false (fun x => bool sx) (fun x => []) fun x => none_)) ∧ ∀ (a : Unit), True → bsplit sx (b_1 = b_1 ∧ b = b ∧ (0 : Int) ≤ (↑i : Int) ∧ L[Int.toNat (↑i : Int)]? = some (T.agg [T.v (Value.int IntKind.i64 (Reg.Op.k (En.op x))), T.v (Value.int IntKind.i64 (Reg.Op.key (En.op x))), T.v (Value.string (ByteArray.mk (List.toArray (Reg.Op.t (En.op x))))), T.v (Value.bool (Val.h (Reg.Op.o (En.op x)))), T.v (Value.string (ByteArray.mk (List.toArray (Val.t (Reg.Op.o (En.op x)))))), T.v (Value.int IntKind.i64 (Reg.Op.n (En.op x))), T.v (Value.int IntKind.i64 (En.s x)), T.v (Value.int IntKind.i64 (En.e x)), T.v (Value.int IntKind.i64 (En.er x)), T.v (Value.bool (Val.h (En.av x))), T.v (Value.string (ByteArray.mk (List.toArray (Val.t (En.av x))))), T.v (Value.int IntKind.u32 (0 : Int)), T.v (Value.int IntKind.u8 (0 : Int)), T.v (Value.int IntKind.u8 (0 : Int)), T.v (Value.bool (En.w x))]) ∧ TCalls Tryd.prog (17 : Nat) [T.agg [T.v (Value.int IntKind.i64 (Reg.Op.k (En.op y))), T.v (Value.int IntKind.i64 (Reg.Op.key (En.op y))), T.v (Value.string (ByteArray.mk (List.toArray (Reg.Op.t (En.op y))))), T.v (Value.bool (Val.h (Reg.Op.o (En.op y)))), T.v (Value.string (ByteArray.mk (List.toArray (Val.t (Reg.Op.o (En.op y)))))), T.v (Value.int IntKind.i64 (Reg.Op.n (En.op y))), T.v (Value.int IntKind.i64 (En.s y)), T.v (Value.int IntKind.i64 (En.e y)), T.v (Value.int IntKind.i64 (En.er y)), T.v (Value.bool (Val.h (En.av y))), T.v (Value.string (ByteArray.mk (List.toArray (Val.t (En.av y))))), T.v (Value.int IntKind.u32 (0 : Int)), T.v (Value.int IntKind.u8 (0 : Int)), T.v (Value.int IntKind.u8 (0 : Int)), T.v (Value.bool (En.w y))], T.agg [T.v (Value.int IntKind.i64 (Reg.Op.k (En.op x))), T.v (Value.int IntKind.i64 (Reg.Op.key (En.op x))), T.v (Value.string (ByteArray.mk (List.toArray (Reg.Op.t (En.op x))))), T.v (Value.bool (Val.h (Reg.Op.o (En.op x)))), T.v (Value.string (ByteArray.mk (List.toArray (Val.t (Reg.Op.o (En.op x)))))), T.v (Value.int IntKind.i64 (Reg.Op.n (En.op x))), T.v (Value.int IntKind.i64 (En.s x)), T.v (Value.int IntKind.i64 (En.e x)), T.v (Value.int IntKind.i64 (En.er x)), T.v (Value.bool (Val.h (En.av x))), T.v (Value.string (ByteArray.mk (List.toArray (Val.t (En.av x))))), T.v (Value.int IntKind.u32 (0 : Int)), T.v (Value.int IntKind.u8 (0 : Int)), T.v (Value.int IntKind.u8 (0 : Int)), T.v (Value.bool (En.w x))]] [] (fun x => none) (callPost (Hint.call false Unit (fun x => True) [] false (fun x => bool ax) (fun x => []) fun x => none_)) ∧ ∀ (a : Unit), True → bsplit ax (Q (T.v (Value.bool false)) [(bm, Ob.kv (62 : Nat) GS F), (b, Ob.cells [T.sl (15 : Nat) L, T.mp (0 : Nat) bm])] fun x => none) (T.v (Value.int IntKind.i64 (IntKind.wrap IntKind.i64 ((↑k : Int) + (1 : Int)))) = T.v (Value.int IntKind.i64 (↑(k + (1 : Nat)) : Int)) ∧ TWk Tryd.prog Γ (fin Tryd.prog Tryd.f26 [(0 : Nat), (1 : Nat)] Q) [It.code (sub (bd Tryd.f26) [(1 : Nat), (1 : Nat), (0 : Nat), (1 : Nat), (0 : Nat)]), It.blk (0 : Nat), It.code (sub (bd Tryd.f26) [(1 : Nat), (1 : Nat), (1 : Nat)])] { fr := [T.ptr (1 : Nat) b (0 : Nat), T.v (Value.int IntKind.u32 (↑m : Int)), T.v (Value.int IntKind.i64 (↑i : Int)), T.und, T.und, T.und, T.und, T.und, T.und, T.und, T.und, T.und, T.und, T.und, T.und, T.und, T.und, T.und, T.und, T.und, T.und, T.und, T.und, T.und, T.und, T.sl (15 : Nat) L, T.v (Value.int IntKind.i64 (↑n : Int)), T.v (Value.int IntKind.i64 (↑(k + (1 : Nat)) : Int)), T.und, T.und, T.und, T.und, T.und, T.und, T.und, T.und, T.und, T.und, T.und, T.und, T.und, T.und, T.und, T.und, T.und, T.und, T.und, T.und, T.und, T.und, T.und, T.und, T.und, T.und, T.und, T.und, T.und], ob := [(bm, Ob.kv (62 : Nat) GS F), (b, Ob.cells [T.sl (15 : Nat) L, T.mp (0 : Nat) bm])], gl := fun x => none })) (T.v (Value.int IntKind.i64 (IntKind.wrap IntKind.i64 ((↑k : Int) + (1 : Int)))) = T.v (Value.int IntKind.i64 (↑(k + (1 : Nat)) : Int)) ∧ TWk Tryd.prog Γ (fin Tryd.prog Tryd.f26 [(0 : Nat), (1 : Nat)] Q) [It.code (sub (bd Tryd.f26) [(1 : Nat), (1 : Nat), (0 : Nat), (1 : Nat), (0 : Nat)]), It.blk (0 : Nat), It.code (sub (bd Tryd.f26) [(1 : Nat), (1 : Nat), (1 : Nat)])] { fr := [T.ptr (1 : Nat) b (0 : Nat), T.v (Value.int IntKind.u32 (↑m : Int)), T.v (Value.int IntKind.i64 (↑i : Int)), T.und, T.und, T.und, T.und, T.und, T.und, T.und, T.und, T.und, T.und, T.und, T.und, T.und, T.und, T.und, T.und, T.und, T.und, T.und, T.und, T.und, T.und, T.sl (15 : Nat) L, T.v (Value.int IntKind.i64 (↑n : Int)), T.v (Value.int IntKind.i64 (↑(k + (1 : Nat)) : Int)), T.und, T.und, T.und, T.und, T.und, T.und, T.und, T.und, T.und, T.und, T.und, T.und, T.und, T.und, T.und, T.und, T.und, T.und, T.und, T.und, T.und, T.und, T.und, T.und, T.und, T.und, T.und, T.und, T.und], ob := [(bm, Ob.kv (62 : Nat) GS F), (b, Ob.cells [T.sl (15 : Nat) L, T.mp (0 : Nat) bm])], gl := fun x => none })) (T.v (Value.int IntKind.i64 (IntKind.wrap IntKind.i64 ((↑k : Int) + (1 : Int)))) = T.v (Value.int IntKind.i64 (↑(k + (1 : Nat)) : Int)) ∧ TWk Tryd.prog Γ (fin Tryd.prog Tryd.f26 [(0 : Nat), (1 : Nat)] Q) [It.code (sub (bd Tryd.f26) [(1 : Nat), (1 : Nat), (0 : Nat), (1 : Nat), (0 : Nat)]), It.blk (0 : Nat), It.code (sub (bd Tryd.f26) [(1 : Nat), (1 : Nat), (1 : Nat)])] { fr := [T.ptr (1 : Nat) b (0 : Nat), T.v (Value.int IntKind.u32 (↑m : Int)), T.v (Value.int IntKind.i64 (↑i : Int)), T.und, T.und, T.und, T.und, T.und, T.und, T.und, T.und, T.und, T.und, T.und, T.und, T.und, T.und, T.und, T.und, T.und, T.und, T.und, T.und, T.und, T.und, T.sl (15 : Nat) L, T.v (Value.int IntKind.i64 (↑n : Int)), T.v (Value.int IntKind.i64 (↑(k + (1 : Nat)) : Int)), T.und, T.und, T.und, T.und, T.und, T.und, T.und, T.und, T.und, T.und, T.und, T.und, T.und, T.und, T.und, T.und, T.und, T.und, T.und, T.und, T.und, T.und, T.und, T.und, T.und, T.und, T.und, T.und, T.und], ob := [(bm, Ob.kv (62 : Nat) GS F), (b, Ob.cells [T.sl (15 : Nat) L, T.mp (0 : Nat) bm])], gl := fun x => none })) (T.v (Value.int IntKind.i64 (IntKind.wrap IntKind.i64 ((↑k : Int) + (1 : Int)))) = T.v (Value.int IntKind.i64 (↑(k + (1 : Nat)) : Int)) ∧ TWk Tryd.prog Γ (fin Tryd.prog Tryd.f26 [(0 : Nat), (1 : Nat)] Q) [It.code (sub (bd Tryd.f26) [(1 : Nat), (1 : Nat), (0 : Nat), (1 : Nat), (0 : Nat)]), It.blk (0 : Nat), It.code (sub (bd Tryd.f26) [(1 : Nat), (1 : Nat), (1 : Nat)])] { fr := [T.ptr (1 : Nat) b (0 : Nat), T.v (Value.int IntKind.u32 (↑m : Int)), T.v (Value.int IntKind.i64 (↑i : Int)), T.und, T.und, T.und, T.und, T.und, T.und, T.und, T.und, T.und, T.und, T.und, T.und, T.und, T.und, T.und, T.und, T.und, T.und, T.und, T.und, T.und, T.und, T.sl (15 : Nat) L, T.v (Value.int IntKind.i64 (↑n : Int)), T.v (Value.int IntKind.i64 (↑(k + (1 : Nat)) : Int)), T.und, T.und, T.und, T.und, T.und, T.und, T.und, T.und, T.und, T.und, T.und, T.und, T.und, T.und, T.und, T.und, T.und, T.und, T.und, T.und, T.und, T.und, T.und, T.und, T.und, T.und, T.und, T.und, T.und], ob := [(bm, Ob.kv (62 : Nat) GS F), (b, Ob.cells [T.sl (15 : Nat) L, T.mp (0 : Nat) bm])], gl := fun x => none })) (Q (T.v (Value.bool true)) [(bm, Ob.kv (62 : Nat) GS F), (b, Ob.cells [T.sl (15 : Nat) L, T.mp (0 : Nat) bm])] fun x => none)) (by kernel_rfl) ?_
    repeat' (first | exact rfl | exact Nat.le_of_ble_eq_true rfl | refine And.intro ?_ ?_ | intro _ | refine bsplit_mk (fun _ => ?_) (fun _ => ?_))
    all_goals first
      | exact c1
      | exact c2
      | exact c3
      | exact hat
      | exact hax
      | exact hw
      | exact Int.natCast_nonneg _
      | exact no (fun e => by have h := ‹((k : Int) != (i : Int)) = true›; rw [bne_iff_ne] at h; exact h (by rw [e])) (by simpa using ‹(!tb) = true›) ‹sx = true› ‹ax = true›
      | exact nx (fun h1 h2 h3 => absurd (Int.ofNat_inj.1 (bne_eq_false_iff_eq.1 ‹((k : Int) != (i : Int)) = false›)) h1)
      | (refine nx (fun h1 h2 h3 => ?_); clear nx no c1 c2 c3 hat hax hw; simp_all; done)
      | (exfalso; rename_i h; rw [hltz] at h; cases h; done)
      | omega
      | trace_state
theorem free_any (hm : m < 65536) (hl : l.length ≤ 16) (i : Nat) (x : En) (hx : l[i]? = some x) (hQ : ∀ c : Bool, (c = true ↔ Free l m i x) → Q (bool c) (obsK bm b F (Row.aggs enC l)) none_) : TCalls Tryd.prog 26 [.ptr 1 b 0, u32 m, int i] (obsK bm b F (Row.aggs enC l)) none_ Q := by
  have lp := fun Γ h1 h2 => free_loop Γ bm b F l m Q hm hl i x hx h1 h2 hQ l [] rfl (fun k y h => absurd h (Nat.not_lt_zero k))
  have hal : (Row.aggs enC l).length = l.length := Row.aggs_len l
  have hi := (List.getElem?_eq_some_iff.1 hx).1
  have hax : (Row.aggs enC l)[(i : Int).toNat]? = some (.agg (enC x)) := Row.aggs_at (by rw [Int.toNat_natCast]; exact hx)
  have c2 := has_post m i hm (by omega)
  have c1 := never_post x
  have no := hQ false
  have n1 : m.testBit i = true → Q (bool false) (obsK bm b F (Row.aggs enC l)) none_ := fun h => no ⟨fun h => (by cases h), fun hf => by rw [hf.1] at h; cases h⟩
  have n2 : never x = true → Q (bool false) (obsK bm b F (Row.aggs enC l)) none_ := fun h => no ⟨fun h => (by cases h), fun hf => by rw [hf.2.1] at h; cases h⟩
  clear hQ no hx
  rw [← hal] at lp hi
  generalize never x = nx at *
  generalize m.testBit i = tb at *
  unfold obsK at *
  generalize Row.aggs enC l = L at *
  unfold enC at *
  refine TCalls.of Tryd.func26 rfl (CanCall.of Tryd.func26 rfl (by decide)) [0, 1] fun Γ => ?_
  refine run_sound (⟨fun | 1, 2 => told (bool tb) [] [] | 1, 9 => .res (.agg [int x.op.k, int x.op.key, str x.op.t, bool x.op.o.h, str x.op.o.t, int x.op.n, int x.s, int x.e, int x.er, bool x.av.h, str x.av.t, u32 0, u8 0, u8 0, bool x.w]) | 1, 11 => told (bool nx) [] [] | _, _ => .no, [((2, 4), ([0, 1, 2, 25, 26, 27], 2))], fun | 6 => some ⟨[], [22], .take true [0,1,2,3,4,5] (.one 6 (.take true [7,8,9,10] (.one 11 (.take true [12,13,14,15,16,17,18,19,20,21] (.one 22 (.take false [23] .done))))))⟩ | _ => none⟩) 400 (B := TCalls Tryd.prog (31 : Nat) [T.v (Value.int IntKind.u32 (↑m : Int)), T.v (Value.int IntKind.i64 (↑i : Int))] [] (fun x => none) (callPost (Hint.call false Unit (fun x => True) [] false (fun x => bool tb) (fun x => []) fun x => none_)) ∧ ∀ (a : Unit), True → bsplit tb (Q (T.v (Value.bool false)) [(bm, Ob.kv (62 : Nat) GS F), (b, Ob.cells [T.sl (15 : Nat) L, T.mp (0 : Nat) bm])] fun x => none) (b = b ∧ (0 : Int) ≤ (↑i : Int) ∧ L[Int.toNat (↑i : Int)]? = some (T.agg [T.v (Value.int IntKind.i64 (Reg.Op.k (En.op x))), T.v (Value.int IntKind.i64 (Reg.Op.key (En.op x))), T.v (Value.string (ByteArray.mk (List.toArray (Reg.Op.t (En.op x))))), T.v (Value.bool (Val.h (Reg.Op.o (En.op x)))), T.v (Value.string (ByteArray.mk (List.toArray (Val.t (Reg.Op.o (En.op x)))))), T.v (Value.int IntKind.i64 (Reg.Op.n (En.op x))), T.v (Value.int IntKind.i64 (En.s x)), T.v (Value.int IntKind.i64 (En.e x)), T.v (Value.int IntKind.i64 (En.er x)), T.v (Value.bool (Val.h (En.av x))), T.v (Value.string (ByteArray.mk (List.toArray (Val.t (En.av x))))), T.v (Value.int IntKind.u32 (0 : Int)), T.v (Value.int IntKind.u8 (0 : Int)), T.v (Value.int IntKind.u8 (0 : Int)), T.v (Value.bool (En.w x))]) ∧ TCalls Tryd.prog (16 : Nat) [T.agg [T.v (Value.int IntKind.i64 (Reg.Op.k (En.op x))), T.v (Value.int IntKind.i64 (Reg.Op.key (En.op x))), T.v (Value.string (ByteArray.mk (List.toArray (Reg.Op.t (En.op x))))), T.v (Value.bool (Val.h (Reg.Op.o (En.op x)))), T.v (Value.string (ByteArray.mk (List.toArray (Val.t (Reg.Op.o (En.op x)))))), T.v (Value.int IntKind.i64 (Reg.Op.n (En.op x))), T.v (Value.int IntKind.i64 (En.s x)), T.v (Value.int IntKind.i64 (En.e x)), T.v (Value.int IntKind.i64 (En.er x)), T.v (Value.bool (Val.h (En.av x))), T.v (Value.string (ByteArray.mk (List.toArray (Val.t (En.av x))))), T.v (Value.int IntKind.u32 (0 : Int)), T.v (Value.int IntKind.u8 (0 : Int)), T.v (Value.int IntKind.u8 (0 : Int)), T.v (Value.bool (En.w x))]] [] (fun x => none) (callPost (Hint.call false Unit (fun x => True) [] false (fun x => bool nx) (fun x => []) fun x => none_)) ∧ ∀ (a : Unit), True → bsplit nx (Q (T.v (Value.bool false)) [(bm, Ob.kv (62 : Nat) GS F), (b, Ob.cells [T.sl (15 : Nat) L, T.mp (0 : Nat) bm])] fun x => none) (b = b ∧ TWk Tryd.prog Γ (fin Tryd.prog Tryd.f26 [(0 : Nat), (1 : Nat)] Q) [It.code (sub (bd Tryd.f26) [(1 : Nat), (1 : Nat), (0 : Nat), (1 : Nat), (0 : Nat)]), It.blk (0 : Nat), It.code (sub (bd Tryd.f26) [(1 : Nat), (1 : Nat), (1 : Nat)])] { fr := [T.ptr (1 : Nat) b (0 : Nat), T.v (Value.int IntKind.u32 (↑m : Int)), T.v (Value.int IntKind.i64 (↑i : Int)), T.und, T.und, T.und, T.und, T.und, T.und, T.und, T.und, T.und, T.und, T.und, T.und, T.und, T.und, T.und, T.und, T.und, T.und, T.und, T.und, T.und, T.und, T.sl (15 : Nat) L, T.v (Value.int IntKind.i64 (↑(List.length L) : Int)), T.v (Value.int IntKind.i64 (0 : Int)), T.und, T.und, T.und, T.und, T.und, T.und, T.und, T.und, T.und, T.und, T.und, T.und, T.und, T.und, T.und, T.und, T.und, T.und, T.und, T.und, T.und, T.und, T.und, T.und, T.und, T.und, T.und, T.und, T.und], ob := [(bm, Ob.kv (62 : Nat) GS F), (b, Ob.cells [T.sl (15 : Nat) L, T.mp (0 : Nat) bm])], gl := fun x => none }))) (by kernel_rfl) ?_
  repeat' (first | exact rfl | exact Nat.le_of_ble_eq_true rfl | refine And.intro ?_ ?_ | intro _ | refine bsplit_mk (fun _ => ?_) (fun _ => ?_))
  all_goals first
    | exact c1
    | exact c2
    | exact hax
    | exact Int.natCast_nonneg _
    | exact n1 ‹tb = true›
    | exact n2 ‹nx = true›
    | exact lp Γ ‹tb = false› ‹nx = false›
    | omega
    | trace_state
end
end X27
end Go.Proofs.YtfealopjdkilfaaDoor.Vm
