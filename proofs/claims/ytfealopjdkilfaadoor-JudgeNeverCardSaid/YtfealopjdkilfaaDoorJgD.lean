/- Judge by the engine: is an order right? -/
import Derived.Test.YtfealopjdkilfaaDoorJgC
namespace Go.Proofs.YtfealopjdkilfaaDoor.Vm
open Go Go.RowKit
set_option maxRecDepth 100000
namespace X27
open Reg (Val Res In64 applyR)
open Jdg (En never sure fits next Apart Whole Walk)
open X4 (Gs obsG vC opC tabC strI)
def ints (q : List Int) : List T := q.map fun i => int i
theorem ints_len (q : List Int) : (ints q).length = q.length := by unfold ints; rw [List.length_map]
theorem ints_at {q : List Int} {i : Nat} {x : Int} (h : q[i]? = some x) : (ints q)[(i : Int).toNat]? = some (int x) := by
  rw [Int.toNat_natCast]
  unfold ints
  rw [List.getElem?_map, h]; rfl
section
variable (Γ : Ctx) (l : List Int) (k : Int) (Q : T → Obs → Glb → Prop)
theorem index_loop (hl : l.length ≤ 1000000) (hQ : ∀ x : Int, (0 ≤ x ↔ k ∈ l) → Q (int x) [] none_) : ∀ (r d : List Int), l = d ++ r → k ∉ d →
    TWk Tryd.prog Γ (fin Tryd.prog Tryd.f32 [] Q) [.code (sub (bd Tryd.f32) [1, 0, 1, 0]), .blk 0, .code (sub (bd Tryd.f32) [1, 1])] ⟨frame 19 [(0, .sl 1 (ints l)), (1, int k), (7, int l.length), (8, int d.length)], [], none_⟩ := by
  intro r
  induction r with
  | nil =>
    intro d h hk
    have hQ := hQ (-1) ⟨fun h => absurd h (by decide), fun hc => absurd (by rw [h] at hc; simpa using hc) hk⟩
    have hlt : (d.length : Int) = (l.length : Int) := by rw [h]; simp
    rw [hlt]
    clear h hk hlt
    generalize ints l = L at *
    generalize (l.length : Int) = n at *
    refine run_sound (⟨fun | 4, 3 => .res (int 0) | _, _ => .no, [((2, 2), ([0, 1, 7, 8], 0))], fun  | _ => none⟩) 400 (B := bsplit (decide (n < n)) ((0 : Int) ≤ n ∧ L[Int.toNat n]? = some (T.v (Value.int IntKind.i64 (0 : Int))) ∧ bsplit (k == (0 : Int)) (Q (T.v (Value.int IntKind.i64 n)) [] fun x => none) (TWk Tryd.prog Γ (fin Tryd.prog Tryd.f32 [] Q) [It.code (sub (bd Tryd.f32) [(1 : Nat), (0 : Nat), (1 : Nat), (0 : Nat)]), It.blk (0 : Nat), It.code (sub (bd Tryd.f32) [(1 : Nat), (1 : Nat)])] { fr := [T.sl (1 : Nat) L, T.v (Value.int IntKind.i64 k), T.und, T.und, T.und, T.und, T.und, T.v (Value.int IntKind.i64 n), T.v (Value.int IntKind.i64 (IntKind.wrap IntKind.i64 (n + (1 : Int)))), T.und, T.und, T.und, T.und, T.und, T.und, T.und, T.und, T.und, T.und], ob := [], gl := fun x => none })) (Q (T.v (Value.int IntKind.i64 (-1 : Int))) [] fun x => none)) (by kernel_rfl) ?_
    repeat' (first | exact rfl | exact Nat.le_of_ble_eq_true rfl | refine And.intro ?_ ?_ | intro _ | refine bsplit_mk (fun _ => ?_) (fun _ => ?_))
    all_goals first
      | exact hQ
      | (exfalso; simp at *; done)
      | trace_state
  | cons x r ih =>
    intro d h hk
    have hx : l[d.length]? = some x := by rw [h]; simp
    have hlt : d.length < l.length := (List.getElem?_eq_some_iff.1 hx).1
    have hat := ints_at hx
    have hal := ints_len l
    have nx := fun hs : k ≠ x => ih (d ++ [x]) (by rw [h]; simp) (fun hc => by
      rcases List.mem_append.1 hc with hc | hc
      · exact hk hc
      · rw [List.mem_singleton] at hc; exact hs hc)
    rw [show (d ++ [x]).length = d.length + 1 by simp] at nx
    have yes := fun e : k = x => hQ d.length ⟨fun _ => by rw [e]; exact List.mem_of_getElem? hx, fun _ => Int.natCast_nonneg _⟩
    have hw : T.v (.int .i64 (IntKind.wrap .i64 ((d.length : Int) + 1))) = int (d.length + 1 : Nat) := congrArg int (by rw [wrap_i64 (by omega) (by omega)]; omega)
    have hltz : decide ((d.length : Int) < (l.length : Int)) = true := decide_eq_true (by omega)
    clear ih hQ h hk hx
    generalize ints l = L at *
    generalize d.length = p at *
    generalize l.length = n at *
    refine run_sound (⟨fun | 4, 3 => .res (int x) | 6, 0 => .res (int (p + 1 : Nat)) | _, _ => .no, [((2, 2), ([0, 1, 7, 8], 0))], fun  | _ => none⟩) 400 (B := bsplit (decide ((↑p : Int) < (↑n : Int))) ((0 : Int) ≤ (↑p : Int) ∧ L[Int.toNat (↑p : Int)]? = some (T.v (Value.int IntKind.i64 x)) ∧ bsplit (k == x) (Q (T.v (Value.int IntKind.i64 (↑p : Int))) [] fun x => none) (T.v (Value.int IntKind.i64 (IntKind.wrap IntKind.i64 ((↑p : Int) + (1 : Int)))) = T.v (Value.int IntKind.i64 (↑(p + (1 : Nat)) : Int)) ∧ TWk Tryd.prog Γ (fin Tryd.prog Tryd.f32 [] Q) [It.code (sub (bd Tryd.f32) [(1 : Nat), (0 : Nat), (1 : Nat), (0 : Nat)]), It.blk (0 : Nat), It.code (sub (bd Tryd.f32) [(1 : Nat), (1 : Nat)])] { fr := [T.sl (1 : Nat) L, T.v (Value.int IntKind.i64 k), T.und, T.und, T.und, T.und, T.und, T.v (Value.int IntKind.i64 (↑n : Int)), T.v (Value.int IntKind.i64 (↑(p + (1 : Nat)) : Int)), T.und, T.und, T.und, T.und, T.und, T.und, T.und, T.und, T.und, T.und], ob := [], gl := fun x => none })) (Q (T.v (Value.int IntKind.i64 (-1 : Int))) [] fun x => none)) (by kernel_rfl) ?_
    repeat' (first | exact rfl | exact Nat.le_of_ble_eq_true rfl | refine And.intro ?_ ?_ | intro _ | refine bsplit_mk (fun _ => ?_) (fun _ => ?_))
    all_goals first
      | exact hat
      | exact hw
      | exact Int.natCast_nonneg _
      | exact yes (beq_iff_eq.1 ‹_›)
      | exact nx (fun e => absurd (beq_iff_eq.2 e) (by rw [‹(k == x) = false›]; decide))
      | (exfalso; rename_i h; rw [hltz] at h; cases h; done)
      | omega
      | trace_state
theorem contains_any (hl : l.length ≤ 1000000) (hQ : ∀ c : Bool, (c = true ↔ k ∈ l) → Q (bool c) [] none_) : TCalls Tryd.prog 27 [.sl 1 (ints l), int k] [] none_ Q := by
  have c1 : TCalls Tryd.prog 32 [.sl 1 (ints l), int k] [] none_ (callPost (.call false Int (fun x => 0 ≤ x ↔ k ∈ l) [] false (fun x => int x) (fun _ => []) (fun _ => none_))) := by
    have lp := fun Γ => index_loop Γ l k (callPost (.call false Int (fun x => 0 ≤ x ↔ k ∈ l) [] false (fun x => int x) (fun _ => []) (fun _ => none_))) hl (fun x h => ⟨x, h, rfl, rfl, Nat.le_refl _, fun e => by cases e⟩) l [] rfl (by simp)
    have hal := ints_len l
    rw [← hal] at lp
    generalize ints l = L at *
    refine TCalls.of Tryd.func32 rfl (CanCall.of Tryd.func32 rfl (by decide)) [] fun Γ => ?_
    refine run_sound (⟨fun _ _ => .no, [((2, 2), ([0, 1, 7, 8], 0))], fun _ => none⟩) 400 (B := TWk Tryd.prog Γ (fin Tryd.prog Tryd.f32 [] (callPost (Hint.call false Int (fun x => (0 : Int) ≤ x ↔ k ∈ l) [] false (fun x => int x) (fun x => []) fun x => none_))) [It.code (sub (bd Tryd.f32) [(1 : Nat), (0 : Nat), (1 : Nat), (0 : Nat)]), It.blk (0 : Nat), It.code (sub (bd Tryd.f32) [(1 : Nat), (1 : Nat)])] { fr := [T.sl (1 : Nat) L, T.v (Value.int IntKind.i64 k), T.und, T.und, T.und, T.und, T.und, T.v (Value.int IntKind.i64 (↑(List.length L) : Int)), T.v (Value.int IntKind.i64 (0 : Int)), T.und, T.und, T.und, T.und, T.und, T.und, T.und, T.und, T.und, T.und], ob := [], gl := fun x => none }) (by kernel_rfl) ?_
    repeat' (first | exact rfl | exact Nat.le_of_ble_eq_true rfl | refine And.intro ?_ ?_ | intro _ | refine bsplit_mk (fun _ => ?_) (fun _ => ?_))
    exact lp Γ
  generalize ints l = L at *
  have hQ := fun (x : Int) (h : 0 ≤ x ↔ k ∈ l) => hQ (decide (x ≥ 0)) (by rw [decide_eq_true_eq]; exact h)
  refine TCalls.of Tryd.func27 rfl (CanCall.of Tryd.func27 rfl (by decide)) [] fun Γ => ?_
  refine run_sound (⟨fun | 1, 2 => .call false Int (fun x => 0 ≤ x ↔ k ∈ l) [] false (fun x => int x) (fun _ => []) (fun _ => none_) | _, _ => .no, [], fun  | _ => none⟩) 400 (B := TCalls Tryd.prog (32 : Nat) [T.sl (1 : Nat) L, T.v (Value.int IntKind.i64 k)] [] (fun x => none) (callPost (Hint.call false Int (fun x => (0 : Int) ≤ x ↔ k ∈ l) [] false (fun x => int x) (fun x => []) fun x => none_)) ∧ ∀ (a : Int), ((0 : Int) ≤ a ↔ k ∈ l) → Q (T.v (Value.bool (decide (a ≥ (0 : Int))))) [] fun x => none) (by kernel_rfl) ?_
  repeat' (first | exact rfl | exact Nat.le_of_ble_eq_true rfl | refine And.intro ?_ ?_ | intro _ | refine bsplit_mk (fun _ => ?_) (fun _ => ?_))
  all_goals first
    | exact c1
    | exact hQ _ ‹_›
    | trace_state
end
section
variable (Γ : Ctx) (q : List Int) (n : Nat) (Q : T → Obs → Glb → Prop)
theorem apart_loop (hn : n ≤ 1000000) (hl : q.length ≤ 1000000) (hQ : ∀ c : Bool, (c = true ↔ Apart n [] q) → Q (bool c) [] none_) : ∀ (r d : List Int), q = d ++ r → (Apart n d r ↔ Apart n [] q) →
    TWk Tryd.prog Γ (fin Tryd.prog Tryd.f19 [] Q) [.code (sub (bd Tryd.f19) [1, 0, 1, 0]), .blk 0, .code (sub (bd Tryd.f19) [1, 1])] ⟨frame 29 [(0, .sl 1 (ints q)), (1, int n), (7, .sl 1 (ints q)), (8, int q.length), (9, int d.length)], [], none_⟩ := by
  intro r
  induction r with
  | nil =>
    intro d h hi
    have hQ := hQ true ⟨fun _ => hi.1 trivial, fun _ => rfl⟩
    have hlt : (d.length : Int) = (q.length : Int) := by rw [h]; simp
    rw [hlt]
    clear h hi hlt
    generalize ints q = L at *
    generalize (q.length : Int) = m at *
    refine run_sound (⟨fun | 3, 1 => .res (int 0) | _, _ => .no, [((2, 2), ([0, 1, 7, 8, 9], 0))], fun  | _ => none⟩) 400 (B := bsplit (decide (m < m)) ((0 : Int) ≤ m ∧ L[Int.toNat m]? = some (T.v (Value.int IntKind.i64 (0 : Int))) ∧ bsplit (decide ((0 : Int) ≥ (↑n : Int))) (Q (T.v (Value.bool false)) [] fun x => none) (((0 : Int) ≤ (↑(0 : Nat) : Int) ∧ (↑(0 : Nat) : Int) ≤ Prod.snd (IntKind.i64, m) ∧ Prod.snd (IntKind.i64, m) ≤ (↑(List.length L) : Int)) ∧ False)) (Q (T.v (Value.bool true)) [] fun x => none)) (by kernel_rfl) ?_
    repeat' (first | exact rfl | exact Nat.le_of_ble_eq_true rfl | refine And.intro ?_ ?_ | intro _ | refine bsplit_mk (fun _ => ?_) (fun _ => ?_))
    all_goals first
      | exact hQ
      | (exfalso; simp at *; done)
      | trace_state
  | cons x r ih =>
    intro d h hi
    have hx : q[d.length]? = some x := by rw [h]; simp
    have hlt : d.length < q.length := (List.getElem?_eq_some_iff.1 hx).1
    have hat := ints_at hx
    have hal := ints_len q
    have htk : (ints q).take d.length = ints d := by unfold ints; rw [← List.map_take, h]; simp
    obtain ⟨c, hc⟩ : ∃ c : Bool, (c = true ↔ x ∈ d) := ⟨decide (x ∈ d), by rw [decide_eq_true_eq]⟩
    have c1 : TCalls Tryd.prog 27 [.sl 1 (ints d), int x] [] none_ (callPost (told (bool c) [] [])) := contains_any d x _ (by omega) (fun c' h' => told_post (by
      have : c' = c := by rw [Bool.eq_iff_iff]; exact h'.trans hc.symm
      rw [this]))
    rw [← htk] at c1
    have nx := fun (h0 : 0 ≤ x) (h1 : x < n) (h2 : c = false) => ih (d ++ [x]) (by rw [h]; simp) (by
      rw [← hi]
      exact ⟨fun h3 => ⟨⟨x.toNat, by omega, by omega⟩, fun h4 => absurd (hc.2 h4) (by rw [h2]; decide), h3⟩, fun h3 => h3.2.2⟩)
    rw [show (d ++ [x]).length = d.length + 1 by simp] at nx
    have no := fun (hno : x < 0 ∨ n ≤ x ∨ c = true) => hQ false ⟨fun h => (by cases h), fun h3 => by
      obtain ⟨⟨i, h4, h5⟩, h6, _⟩ := hi.2 h3
      rcases hno with h7 | h7 | h7
      · omega
      · omega
      · exact absurd (hc.1 h7) h6⟩
    have hw : T.v (.int .i64 (IntKind.wrap .i64 ((d.length : Int) + 1))) = int (d.length + 1 : Nat) := congrArg int (by rw [wrap_i64 (by omega) (by omega)]; omega)
    have hltz : decide ((d.length : Int) < (q.length : Int)) = true := decide_eq_true (by omega)
    clear ih hQ h hx hi hc htk
    generalize ints q = L at *
    generalize d.length = p at *
    generalize q.length = m at *
    refine run_sound (⟨fun | 3, 1 => .res (int x) | 4, 12 => told (bool c) [] [] | 6, 0 => .res (int (p + 1 : Nat)) | _, _ => .no, [((2, 2), ([0, 1, 7, 8, 9], 0))], fun  | _ => none⟩) 400 (B := bsplit (decide ((↑p : Int) < (↑m : Int))) ((0 : Int) ≤ (↑p : Int) ∧ L[Int.toNat (↑p : Int)]? = some (T.v (Value.int IntKind.i64 x)) ∧ bsplit (decide (x < (0 : Int))) (Q (T.v (Value.bool false)) [] fun x => none) (bsplit (decide (x ≥ (↑n : Int))) (Q (T.v (Value.bool false)) [] fun x => none) (((0 : Int) ≤ (↑(0 : Nat) : Int) ∧ (↑(0 : Nat) : Int) ≤ Prod.snd (IntKind.i64, (↑p : Int)) ∧ Prod.snd (IntKind.i64, (↑p : Int)) ≤ (↑(List.length L) : Int)) ∧ TCalls Tryd.prog (27 : Nat) [T.sl (1 : Nat) (List.drop (Int.toNat (↑(0 : Nat) : Int)) (List.take (Int.toNat (Prod.snd (IntKind.i64, (↑p : Int)))) L)), T.v (Value.int IntKind.i64 x)] [] (fun x => none) (callPost (Hint.call false Unit (fun x => True) [] false (fun x => bool c) (fun x => []) fun x => none_)) ∧ ∀ (a : Unit), True → bsplit c (Q (T.v (Value.bool false)) [] fun x => none) (T.v (Value.int IntKind.i64 (IntKind.wrap IntKind.i64 ((↑p : Int) + (1 : Int)))) = T.v (Value.int IntKind.i64 (↑(p + (1 : Nat)) : Int)) ∧ TWk Tryd.prog Γ (fin Tryd.prog Tryd.f19 [] Q) [It.code (sub (bd Tryd.f19) [(1 : Nat), (0 : Nat), (1 : Nat), (0 : Nat)]), It.blk (0 : Nat), It.code (sub (bd Tryd.f19) [(1 : Nat), (1 : Nat)])] { fr := [T.sl (1 : Nat) L, T.v (Value.int IntKind.i64 (↑n : Int)), T.und, T.und, T.und, T.und, T.und, T.sl (1 : Nat) L, T.v (Value.int IntKind.i64 (↑m : Int)), T.v (Value.int IntKind.i64 (↑(p + (1 : Nat)) : Int)), T.und, T.und, T.und, T.und, T.und, T.und, T.und, T.und, T.und, T.und, T.und, T.und, T.und, T.und, T.und, T.und, T.und, T.und, T.und], ob := [], gl := fun x => none })))) (Q (T.v (Value.bool true)) [] fun x => none)) (by kernel_rfl) ?_
    repeat' (first | exact rfl | exact Nat.le_of_ble_eq_true rfl | refine And.intro ?_ ?_ | intro _ | refine bsplit_mk (fun _ => ?_) (fun _ => ?_))
    all_goals first
      | exact hat
      | exact hw
      | exact c1
      | exact Int.natCast_nonneg _
      | exact no (.inl (of_decide_eq_true ‹decide (x < 0) = true›))
      | exact no (.inr (.inl (of_decide_eq_true ‹decide (x ≥ (n : Int)) = true›)))
      | exact no (.inr (.inr ‹c = true›))
      | exact nx (by have := of_decide_eq_false ‹decide (x < 0) = false›; omega) (by have := of_decide_eq_false ‹decide (x ≥ (n : Int)) = false›; omega) ‹c = false›
      | (exfalso; rename_i h; rw [hltz] at h; cases h; done)
      | omega
      | trace_state
theorem apart_any (hn : n ≤ 1000000) (hl : q.length ≤ 1000000) (hQ : ∀ c : Bool, (c = true ↔ Apart n [] q) → Q (bool c) [] none_) : TCalls Tryd.prog 19 [.sl 1 (ints q), int n] [] none_ Q := by
  have lp := fun Γ => apart_loop Γ q n Q hn hl hQ q [] rfl Iff.rfl
  have hal := ints_len q
  clear hQ
  rw [← hal] at lp
  generalize ints q = L at *
  refine TCalls.of Tryd.func19 rfl (CanCall.of Tryd.func19 rfl (by decide)) [] fun Γ => ?_
  refine run_sound (⟨fun _ _ => .no, [((2, 2), ([0, 1, 7, 8, 9], 0))], fun _ => none⟩) 400 (B := TWk Tryd.prog Γ (fin Tryd.prog Tryd.f19 [] Q) [It.code (sub (bd Tryd.f19) [(1 : Nat), (0 : Nat), (1 : Nat), (0 : Nat)]), It.blk (0 : Nat), It.code (sub (bd Tryd.f19) [(1 : Nat), (1 : Nat)])] { fr := [T.sl (1 : Nat) L, T.v (Value.int IntKind.i64 (↑n : Int)), T.und, T.und, T.und, T.und, T.und, T.sl (1 : Nat) L, T.v (Value.int IntKind.i64 (↑(List.length L) : Int)), T.v (Value.int IntKind.i64 (0 : Int)), T.und, T.und, T.und, T.und, T.und, T.und, T.und, T.und, T.und, T.und, T.und, T.und, T.und, T.und, T.und, T.und, T.und, T.und, T.und], ob := [], gl := fun x => none }) (by kernel_rfl) ?_
  repeat' (first | exact rfl | exact Nat.le_of_ble_eq_true rfl | refine And.intro ?_ ?_ | intro _ | refine bsplit_mk (fun _ => ?_) (fun _ => ?_))
  exact lp Γ
end
section
variable (Γ : Ctx) (l : List En) (q : List Int) (Q : T → Obs → Glb → Prop)
theorem whole_loop (hn : l.length ≤ 1000000) (hl : q.length ≤ 1000000) (hQ : ∀ c : Bool, (c = true ↔ Whole l [] q) → Q (bool c) [] none_) : ∀ (r d : List En), l = d ++ r → (∀ (i : Nat) x, i < d.length → l[i]? = some x → (sure x = true → (i : Int) ∈ q) ∧ (never x = true → (i : Int) ∉ q)) →
    TWk Tryd.prog Γ (fin Tryd.prog Tryd.f20 [] Q) [.code (sub (bd Tryd.f20) [1, 0, 1, 0]), .blk 0, .code (sub (bd Tryd.f20) [1, 1])] ⟨frame 32 [(1, .sl 1 (ints q)), (8, .sl 15 (Row.aggs enC l)), (9, int l.length), (10, int d.length)], [], none_⟩ := by
  intro r
  induction r with
  | nil =>
    intro d h hi
    have hQ := hQ true ⟨fun _ i x hx => hi i x (by have := (List.getElem?_eq_some_iff.1 hx).1; rw [h] at this; simpa using this) hx, fun _ => rfl⟩
    have hlt : (d.length : Int) = (l.length : Int) := by rw [h]; simp
    rw [hlt]
    clear h hi hlt
    generalize Row.aggs enC l = L at *
    generalize (l.length : Int) = n at *
    refine run_sound (⟨fun | 3, 1 => .res (.agg [int 0, int 0, int 0, int 0, int 0, int 0, int 0, int 0, int 0, int 0, int 0, int 0, int 0, int 0, int 0]) | _, _ => .no, [((2, 2), ([1, 8, 9, 10], 0))], fun  | _ => none⟩) 400 (B := bsplit (decide (n < n)) ((0 : Int) ≤ n ∧ L[Int.toNat n]? = some (T.agg [T.v (Value.int IntKind.i64 (0 : Int)), T.v (Value.int IntKind.i64 (0 : Int)), T.v (Value.int IntKind.i64 (0 : Int)), T.v (Value.int IntKind.i64 (0 : Int)), T.v (Value.int IntKind.i64 (0 : Int)), T.v (Value.int IntKind.i64 (0 : Int)), T.v (Value.int IntKind.i64 (0 : Int)), T.v (Value.int IntKind.i64 (0 : Int)), T.v (Value.int IntKind.i64 (0 : Int)), T.v (Value.int IntKind.i64 (0 : Int)), T.v (Value.int IntKind.i64 (0 : Int)), T.v (Value.int IntKind.i64 (0 : Int)), T.v (Value.int IntKind.i64 (0 : Int)), T.v (Value.int IntKind.i64 (0 : Int)), T.v (Value.int IntKind.i64 (0 : Int))]) ∧ ∀ (b : Nat), ((15 : Nat) = nat_lit 15 ∧ List.all [T.v (Value.int IntKind.i64 (0 : Int)), T.v (Value.int IntKind.i64 (0 : Int)), T.v (Value.int IntKind.i64 (0 : Int)), T.v (Value.int IntKind.i64 (0 : Int)), T.v (Value.int IntKind.i64 (0 : Int)), T.v (Value.int IntKind.i64 (0 : Int)), T.v (Value.int IntKind.i64 (0 : Int)), T.v (Value.int IntKind.i64 (0 : Int)), T.v (Value.int IntKind.i64 (0 : Int)), T.v (Value.int IntKind.i64 (0 : Int)), T.v (Value.int IntKind.i64 (0 : Int)), T.v (Value.int IntKind.i64 (0 : Int)), T.v (Value.int IntKind.i64 (0 : Int)), T.v (Value.int IntKind.i64 (0 : Int)), T.v (Value.int IntKind.i64 (0 : Int))] T.one = true) ∧ b = b ∧ (0 : Nat) + nat_lit 15 ≤ (15 : Nat) ∧ False) (Q (T.v (Value.bool true)) [] fun x => none)) (by kernel_rfl) ?_
    repeat' (first | exact rfl | exact Nat.le_of_ble_eq_true rfl | refine And.intro ?_ ?_ | intro _ | refine bsplit_mk (fun _ => ?_) (fun _ => ?_))
    all_goals first
      | exact hQ
      | (exfalso; simp at *; done)
      | trace_state
  | cons x r ih =>
    intro d h hi
    have hx : l[d.length]? = some x := by rw [h]; simp
    have hlt : d.length < l.length := (List.getElem?_eq_some_iff.1 hx).1
    have hat : (Row.aggs enC l)[(d.length : Int).toNat]? = some (.agg (enC x)) := Row.aggs_at (by rw [Int.toNat_natCast]; exact hx)
    have hal : (Row.aggs enC l).length = l.length := Row.aggs_len l
    obtain ⟨c, hc⟩ : ∃ c : Bool, (c = true ↔ (d.length : Int) ∈ q) := ⟨decide ((d.length : Int) ∈ q), by rw [decide_eq_true_eq]⟩
    have c1 : TCalls Tryd.prog 27 [.sl 1 (ints q), int d.length] [] none_ (callPost (told (bool c) [] [])) := contains_any q d.length _ hl (fun c' h' => told_post (by
      have : c' = c := by rw [Bool.eq_iff_iff]; exact h'.trans hc.symm
      rw [this]))
    have c2 := sure_post x
    have c3 := never_post x
    have nx := fun (h1 : sure x = true → c = true) (h2 : never x = true → c = false) => ih (d ++ [x]) (by rw [h]; simp) (fun i y hil hy => by
      rw [List.length_append, List.length_singleton] at hil
      by_cases e : i = d.length
      · subst e
        obtain rfl := Option.some.inj (hx.symm.trans hy)
        exact ⟨fun hs => hc.1 (h1 hs), fun hs hm => absurd (hc.2 hm) (by rw [h2 hs]; decide)⟩
      · exact hi i y (by omega) hy)
    rw [show (d ++ [x]).length = d.length + 1 by simp] at nx
    have no := fun (hno : sure x = true ∧ c = false ∨ never x = true ∧ c = true) => hQ false ⟨fun h => (by cases h), fun h3 => by
      obtain ⟨h4, h5⟩ := h3 d.length x hx
      rcases hno with ⟨h6, h7⟩ | ⟨h6, h7⟩
      · exact absurd (hc.2 (h4 h6)) (by rw [h7]; decide)
      · exact absurd (hc.1 h7) (h5 h6)⟩
    have hw : T.v (.int .i64 (IntKind.wrap .i64 ((d.length : Int) + 1))) = int (d.length + 1 : Nat) := congrArg int (by rw [wrap_i64 (by omega) (by omega)]; omega)
    have hltz : decide ((d.length : Int) < (l.length : Int)) = true := decide_eq_true (by omega)
    clear ih hQ h hx hi hc
    generalize ints q = O at *
    generalize sure x = sx at *
    generalize never x = nv at *
    generalize Row.aggs enC l = L at *
    unfold enC at *
    generalize d.length = p at *
    generalize l.length = m at *
    refine run_sound (⟨fun | 3, 1 => .res (.agg [int x.op.k, int x.op.key, str x.op.t, bool x.op.o.h, str x.op.o.t, int x.op.n, int x.s, int x.e, int x.er, bool x.av.h, str x.av.t, u32 0, u8 0, u8 0, bool x.w]) | 4, 2 => told (bool c) [] [] | 5, 1 => told (bool sx) [] [] | 5, 8 => told (bool nv) [] [] | 7, 0 => .res (int (p + 1 : Nat)) | _, _ => .no, [((2, 2), ([1, 8, 9, 10], 0))], fun  | _ => none⟩) 400 (B := bsplit (decide ((↑p : Int) < (↑m : Int))) ((0 : Int) ≤ (↑p : Int) ∧ L[Int.toNat (↑p : Int)]? = some (T.agg [T.v (Value.int IntKind.i64 (Reg.Op.k (En.op x))), T.v (Value.int IntKind.i64 (Reg.Op.key (En.op x))), T.v (Value.string (ByteArray.mk (List.toArray (Reg.Op.t (En.op x))))), T.v (Value.bool (Val.h (Reg.Op.o (En.op x)))), T.v (Value.string (ByteArray.mk (List.toArray (Val.t (Reg.Op.o (En.op x)))))), T.v (Value.int IntKind.i64 (Reg.Op.n (En.op x))), T.v (Value.int IntKind.i64 (En.s x)), T.v (Value.int IntKind.i64 (En.e x)), T.v (Value.int IntKind.i64 (En.er x)), T.v (Value.bool (Val.h (En.av x))), T.v (Value.string (ByteArray.mk (List.toArray (Val.t (En.av x))))), T.v (Value.int IntKind.u32 (0 : Int)), T.v (Value.int IntKind.u8 (0 : Int)), T.v (Value.int IntKind.u8 (0 : Int)), T.v (Value.bool (En.w x))]) ∧ ∀ (b : Nat), ((15 : Nat) = nat_lit 15 ∧ List.all [T.v (Value.int IntKind.i64 (Reg.Op.k (En.op x))), T.v (Value.int IntKind.i64 (Reg.Op.key (En.op x))), T.v (Value.string (ByteArray.mk (List.toArray (Reg.Op.t (En.op x))))), T.v (Value.bool (Val.h (Reg.Op.o (En.op x)))), T.v (Value.string (ByteArray.mk (List.toArray (Val.t (Reg.Op.o (En.op x)))))), T.v (Value.int IntKind.i64 (Reg.Op.n (En.op x))), T.v (Value.int IntKind.i64 (En.s x)), T.v (Value.int IntKind.i64 (En.e x)), T.v (Value.int IntKind.i64 (En.er x)), T.v (Value.bool (Val.h (En.av x))), T.v (Value.string (ByteArray.mk (List.toArray (Val.t (En.av x))))), T.v (Value.int IntKind.u32 (0 : Int)), T.v (Value.int IntKind.u8 (0 : Int)), T.v (Value.int IntKind.u8 (0 : Int)), T.v (Value.bool (En.w x))] T.one = true) ∧ b = b ∧ (0 : Nat) + nat_lit 15 ≤ (15 : Nat) ∧ TCalls Tryd.prog (27 : Nat) [T.sl (1 : Nat) O, T.v (Value.int IntKind.i64 (↑p : Int))] [] (fun x => none) (callPost (Hint.call false Unit (fun x => True) [] false (fun x => bool c) (fun x => []) fun x => none_)) ∧ ∀ (a : Unit), True → b = b ∧ TCalls Tryd.prog (18 : Nat) [T.agg [T.v (Value.int IntKind.i64 (Reg.Op.k (En.op x))), T.v (Value.int IntKind.i64 (Reg.Op.key (En.op x))), T.v (Value.string (ByteArray.mk (List.toArray (Reg.Op.t (En.op x))))), T.v (Value.bool (Val.h (Reg.Op.o (En.op x)))), T.v (Value.string (ByteArray.mk (List.toArray (Val.t (Reg.Op.o (En.op x)))))), T.v (Value.int IntKind.i64 (Reg.Op.n (En.op x))), T.v (Value.int IntKind.i64 (En.s x)), T.v (Value.int IntKind.i64 (En.e x)), T.v (Value.int IntKind.i64 (En.er x)), T.v (Value.bool (Val.h (En.av x))), T.v (Value.string (ByteArray.mk (List.toArray (Val.t (En.av x))))), T.v (Value.int IntKind.u32 (0 : Int)), T.v (Value.int IntKind.u8 (0 : Int)), T.v (Value.int IntKind.u8 (0 : Int)), T.v (Value.bool (En.w x))]] [] (fun x => none) (callPost (Hint.call false Unit (fun x => True) [] false (fun x => bool sx) (fun x => []) fun x => none_)) ∧ ∀ (a : Unit), True → bsplit sx (bsplit (!c) (Q (T.v (Value.bool false)) [] fun x => none) (b = b ∧ TCalls Tryd.prog (16 : Nat) [T.agg [T.v (Value.int IntKind.i64 (Reg.Op.k (En.op x))), T.v (Value.int IntKind.i64 (Reg.Op.key (En.op x))), T.v (Value.string (ByteArray.mk (List.toArray (Reg.Op.t (En.op x))))), T.v (Value.bool (Val.h (Reg.Op.o (En.op x)))), T.v (Value.string (ByteArray.mk (List.toArray (Val.t (Reg.Op.o (En.op x)))))), T.v (Value.int IntKind.i64 (Reg.Op.n (En.op x))), T.v (Value.int IntKind.i64 (En.s x)), T.v (Value.int IntKind.i64 (En.e x)), T.v (Value.int IntKind.i64 (En.er x)), T.v (Value.bool (Val.h (En.av x))), T.v (Value.string (ByteArray.mk (List.toArray (Val.t (En.av x))))), T.v (Value.int IntKind.u32 (0 : Int)), T.v (Value.int IntKind.u8 (0 : Int)), T.v (Value.int IntKind.u8 (0 : Int)), T.v (Value.bool (En.w x))]] [] (fun x => none) (callPost (Hint.call false Unit (fun x => True) [] false (fun x => bool nv) (fun x => []) fun x => none_)) ∧ ∀ (a : Unit), True → bsplit nv (bsplit c (Q (T.v (Value.bool false)) [] fun x => none) (T.v (Value.int IntKind.i64 (IntKind.wrap IntKind.i64 ((↑p : Int) + (1 : Int)))) = T.v (Value.int IntKind.i64 (↑(p + (1 : Nat)) : Int)) ∧ TWk Tryd.prog Γ (fin Tryd.prog Tryd.f20 [] Q) [It.code (sub (bd Tryd.f20) [(1 : Nat), (0 : Nat), (1 : Nat), (0 : Nat)]), It.blk (0 : Nat), It.code (sub (bd Tryd.f20) [(1 : Nat), (1 : Nat)])] { fr := [T.und, T.sl (1 : Nat) O, T.und, T.und, T.und, T.und, T.und, T.und, T.sl (15 : Nat) L, T.v (Value.int IntKind.i64 (↑m : Int)), T.v (Value.int IntKind.i64 (↑(p + (1 : Nat)) : Int)), T.und, T.und, T.und, T.und, T.und, T.und, T.und, T.und, T.und, T.und, T.und, T.und, T.und, T.und, T.und, T.und, T.und, T.und, T.und, T.und, T.und], ob := [], gl := fun x => none })) (T.v (Value.int IntKind.i64 (IntKind.wrap IntKind.i64 ((↑p : Int) + (1 : Int)))) = T.v (Value.int IntKind.i64 (↑(p + (1 : Nat)) : Int)) ∧ TWk Tryd.prog Γ (fin Tryd.prog Tryd.f20 [] Q) [It.code (sub (bd Tryd.f20) [(1 : Nat), (0 : Nat), (1 : Nat), (0 : Nat)]), It.blk (0 : Nat), It.code (sub (bd Tryd.f20) [(1 : Nat), (1 : Nat)])] { fr := [T.und, T.sl (1 : Nat) O, T.und, T.und, T.und, T.und, T.und, T.und, T.sl (15 : Nat) L, T.v (Value.int IntKind.i64 (↑m : Int)), T.v (Value.int IntKind.i64 (↑(p + (1 : Nat)) : Int)), T.und, T.und, T.und, T.und, T.und, T.und, T.und, T.und, T.und, T.und, T.und, T.und, T.und, T.und, T.und, T.und, T.und, T.und, T.und, T.und, T.und], ob := [], gl := fun x => none }))) (b = b ∧ TCalls Tryd.prog (16 : Nat) [T.agg [T.v (Value.int IntKind.i64 (Reg.Op.k (En.op x))), T.v (Value.int IntKind.i64 (Reg.Op.key (En.op x))), T.v (Value.string (ByteArray.mk (List.toArray (Reg.Op.t (En.op x))))), T.v (Value.bool (Val.h (Reg.Op.o (En.op x)))), T.v (Value.string (ByteArray.mk (List.toArray (Val.t (Reg.Op.o (En.op x)))))), T.v (Value.int IntKind.i64 (Reg.Op.n (En.op x))), T.v (Value.int IntKind.i64 (En.s x)), T.v (Value.int IntKind.i64 (En.e x)), T.v (Value.int IntKind.i64 (En.er x)), T.v (Value.bool (Val.h (En.av x))), T.v (Value.string (ByteArray.mk (List.toArray (Val.t (En.av x))))), T.v (Value.int IntKind.u32 (0 : Int)), T.v (Value.int IntKind.u8 (0 : Int)), T.v (Value.int IntKind.u8 (0 : Int)), T.v (Value.bool (En.w x))]] [] (fun x => none) (callPost (Hint.call false Unit (fun x => True) [] false (fun x => bool nv) (fun x => []) fun x => none_)) ∧ ∀ (a : Unit), True → bsplit nv (bsplit c (Q (T.v (Value.bool false)) [] fun x => none) (T.v (Value.int IntKind.i64 (IntKind.wrap IntKind.i64 ((↑p : Int) + (1 : Int)))) = T.v (Value.int IntKind.i64 (↑(p + (1 : Nat)) : Int)) ∧ TWk Tryd.prog Γ (fin Tryd.prog Tryd.f20 [] Q) [It.code (sub (bd Tryd.f20) [(1 : Nat), (0 : Nat), (1 : Nat), (0 : Nat)]), It.blk (0 : Nat), It.code (sub (bd Tryd.f20) [(1 : Nat), (1 : Nat)])] { fr := [T.und, T.sl (1 : Nat) O, T.und, T.und, T.und, T.und, T.und, T.und, T.sl (15 : Nat) L, T.v (Value.int IntKind.i64 (↑m : Int)), T.v (Value.int IntKind.i64 (↑(p + (1 : Nat)) : Int)), T.und, T.und, T.und, T.und, T.und, T.und, T.und, T.und, T.und, T.und, T.und, T.und, T.und, T.und, T.und, T.und, T.und, T.und, T.und, T.und, T.und], ob := [], gl := fun x => none })) (T.v (Value.int IntKind.i64 (IntKind.wrap IntKind.i64 ((↑p : Int) + (1 : Int)))) = T.v (Value.int IntKind.i64 (↑(p + (1 : Nat)) : Int)) ∧ TWk Tryd.prog Γ (fin Tryd.prog Tryd.f20 [] Q) [It.code (sub (bd Tryd.f20) [(1 : Nat), (0 : Nat), (1 : Nat), (0 : Nat)]), It.blk (0 : Nat), It.code (sub (bd Tryd.f20) [(1 : Nat), (1 : Nat)])] { fr := [T.und, T.sl (1 : Nat) O, T.und, T.und, T.und, T.und, T.und, T.und, T.sl (15 : Nat) L, T.v (Value.int IntKind.i64 (↑m : Int)), T.v (Value.int IntKind.i64 (↑(p + (1 : Nat)) : Int)), T.und, T.und, T.und, T.und, T.und, T.und, T.und, T.und, T.und, T.und, T.und, T.und, T.und, T.und, T.und, T.und, T.und, T.und, T.und, T.und, T.und], ob := [], gl := fun x => none }))) (Q (T.v (Value.bool true)) [] fun x => none)) (by kernel_rfl) ?_
    repeat' (first | exact rfl | exact Nat.le_of_ble_eq_true rfl | refine And.intro ?_ ?_ | intro _ | refine bsplit_mk (fun _ => ?_) (fun _ => ?_))
    all_goals first
      | exact hat
      | exact hw
      | exact c1
      | exact c2
      | exact c3
      | exact Int.natCast_nonneg _
      | exact no (.inl ⟨‹sx = true›, by simpa using ‹(!c) = true›⟩)
      | exact no (.inr ⟨‹nv = true›, ‹c = true›⟩)
      | (refine nx (fun h1 => ?_) (fun h1 => ?_) <;> clear nx no c1 c2 c3 hat hw <;> simp_all <;> done)
      | (exfalso; rename_i h; rw [hltz] at h; cases h; done)
      | omega
      | trace_state
theorem whole_any (hn : l.length ≤ 1000000) (hl : q.length ≤ 1000000) (hQ : ∀ c : Bool, (c = true ↔ Whole l [] q) → Q (bool c) [] none_) : TCalls Tryd.prog 20 [.sl 15 (Row.aggs enC l), .sl 1 (ints q)] [] none_ Q := by
  have lp := fun Γ => whole_loop Γ l q Q hn hl hQ l [] rfl (fun i x h => absurd h (Nat.not_lt_zero i))
  have hal : (Row.aggs enC l).length = l.length := Row.aggs_len l
  clear hQ
  rw [← hal] at lp
  generalize ints q = O at *
  generalize Row.aggs enC l = L at *
  refine TCalls.of Tryd.func20 rfl (CanCall.of Tryd.func20 rfl (by decide)) [] fun Γ => ?_
  refine run_sound (⟨fun _ _ => .no, [((2, 2), ([1, 8, 9, 10], 0))], fun _ => none⟩) 400 (B := TWk Tryd.prog Γ (fin Tryd.prog Tryd.f20 [] Q) [It.code (sub (bd Tryd.f20) [(1 : Nat), (0 : Nat), (1 : Nat), (0 : Nat)]), It.blk (0 : Nat), It.code (sub (bd Tryd.f20) [(1 : Nat), (1 : Nat)])] { fr := [T.und, T.sl (1 : Nat) O, T.und, T.und, T.und, T.und, T.und, T.und, T.sl (15 : Nat) L, T.v (Value.int IntKind.i64 (↑(List.length L) : Int)), T.v (Value.int IntKind.i64 (0 : Int)), T.und, T.und, T.und, T.und, T.und, T.und, T.und, T.und, T.und, T.und, T.und, T.und, T.und, T.und, T.und, T.und, T.und, T.und, T.und, T.und, T.und], ob := [], gl := fun x => none }) (by kernel_rfl) ?_
  repeat' (first | exact rfl | exact Nat.le_of_ble_eq_true rfl | refine And.intro ?_ ?_ | intro _ | refine bsplit_mk (fun _ => ?_) (fun _ => ?_))
  exact lp Γ
end
section
variable (Γ : Ctx) (g : Gs) (b3 b7 : Nat) (l : List En) (q : List Int) (v0 : Val) (Q : T → Obs → Glb → Prop)
theorem jr_inner (hn : l.length ≤ 1000000) (hl : q.length ≤ 1000000) (w : Val) (d r : List Int) (hq : q = d ++ r) (i : Nat) (x : En) (hx : l[i]? = some x) (hin : ∀ k ∈ q, ∃ i : Nat, k = i ∧ i < l.length)
    (hno : (∃ (j : Nat) (y : En), (j : Int) ∈ d ∧ l[j]? = some y ∧ Jdg.ahead x y = true) → Q (bool false) (obsG g) none_)
    (hyes : (∀ (j : Nat) (y : En), (j : Int) ∈ d → l[j]? = some y → Jdg.ahead x y = false) → TWk Tryd.prog Γ (fin Tryd.prog Tryd.f13 [0, 1, 2] Q) [.code (sub (bd Tryd.f13) [1, 1, 1, 0, 1, 0, 0, 1, 1, 0, 0, 1, 1]), .blk 1, .code (sub (bd Tryd.f13) [1, 1, 1, 0, 1, 0, 0, 1, 1, 1]), .code (sub (bd Tryd.f13) [1, 1, 1, 0, 1, 0]), .blk 0, .code (sub (bd Tryd.f13) [1, 1, 1, 1])] ⟨frame 64 [(1, .sl 15 (Row.aggs enC l)), (2, .sl 1 (ints q)), (7, .ptr 4 b7 0), (9, int i), (26, .sl 1 (ints q)), (27, int q.length), (28, int d.length)], obsG g ++ [(b3, .cells (vC v0)), (b7, .cells (vC w))], none_⟩) :
    ∀ (r2 d2 : List Int), d = d2 ++ r2 → (∀ (j : Nat) (y : En), (j : Int) ∈ d2 → l[j]? = some y → Jdg.ahead x y = false) →
    TWk Tryd.prog Γ (fin Tryd.prog Tryd.f13 [0, 1, 2] Q) [.code (sub (bd Tryd.f13) [1, 1, 1, 0, 1, 0, 0, 1, 1, 0, 0, 1, 0, 1, 0]), .blk 2, .code (sub (bd Tryd.f13) [1, 1, 1, 0, 1, 0, 0, 1, 1, 0, 0, 1, 1]), .blk 1, .code (sub (bd Tryd.f13) [1, 1, 1, 0, 1, 0, 0, 1, 1, 1]), .code (sub (bd Tryd.f13) [1, 1, 1, 0, 1, 0]), .blk 0, .code (sub (bd Tryd.f13) [1, 1, 1, 1])] ⟨frame 64 [(1, .sl 15 (Row.aggs enC l)), (2, .sl 1 (ints q)), (7, .ptr 4 b7 0), (9, int i), (26, .sl 1 (ints q)), (27, int q.length), (28, int d.length), (35, .sl 1 (ints d)), (36, int (ints d).length), (37, int d2.length)], obsG g ++ [(b3, .cells (vC v0)), (b7, .cells (vC w))], none_⟩ := by
  rw [ints_len d]
  intro r2
  induction r2 with
  | nil =>
    intro d2 h hi
    rw [List.append_nil] at h
    subst h
    have hyes := hyes hi
    clear hi hno hin hq hx
    unfold vC obsG at *
    generalize tabC = TC at *
    generalize ints q = O at *
    generalize ints d = D at *
    generalize Row.aggs enC l = L at *
    generalize (d.length : Int) = p at *
    generalize (q.length : Int) = m at *
    refine run_sound (⟨fun | 9, 0 => .res (int 0) | 10, 2 => .res (.agg [int 0, int 0, int 0, int 0, int 0, int 0, int 0, int 0, int 0, int 0, int 0, int 0, int 0, int 0, int 0]) | 10, 6 => .res (.agg [int 0, int 0, int 0, int 0, int 0, int 0, int 0, int 0, int 0, int 0, int 0, int 0, int 0, int 0, int 0]) | _, _ => .no, [((2, 8), ([1, 2, 7, 9, 26, 27, 28, 35, 36, 37], 5)), ((0, 13), ([1, 2, 7, 9, 26, 27, 28], 5))], fun | 10 => some ⟨[], [8], .take true [0,1,2,3,4,5,6,7] (.one 8 .done)⟩ | 13 => some ⟨[], [5, 10], .take true [0,1,2,3,4] (.two 5 9 (.take false [6,7,8] (.one 9 (.one 10 (.take false [11] .done)))) (.one 5 (.take false [6,7,8] (.one 10 (.take false [11] .done)))))⟩ | _ => none⟩) 400 (B := bsplit (decide (p < p)) ((0 : Int) ≤ p ∧ D[Int.toNat p]? = some (T.v (Value.int IntKind.i64 (0 : Int))) ∧ (0 : Int) ≤ (↑i : Int) ∧ L[Int.toNat (↑i : Int)]? = some (T.agg [T.v (Value.int IntKind.i64 (0 : Int)), T.v (Value.int IntKind.i64 (0 : Int)), T.v (Value.int IntKind.i64 (0 : Int)), T.v (Value.int IntKind.i64 (0 : Int)), T.v (Value.int IntKind.i64 (0 : Int)), T.v (Value.int IntKind.i64 (0 : Int)), T.v (Value.int IntKind.i64 (0 : Int)), T.v (Value.int IntKind.i64 (0 : Int)), T.v (Value.int IntKind.i64 (0 : Int)), T.v (Value.int IntKind.i64 (0 : Int)), T.v (Value.int IntKind.i64 (0 : Int)), T.v (Value.int IntKind.i64 (0 : Int)), T.v (Value.int IntKind.i64 (0 : Int)), T.v (Value.int IntKind.i64 (0 : Int)), T.v (Value.int IntKind.i64 (0 : Int))]) ∧ (0 : Int) ≤ (0 : Int) ∧ L[Int.toNat (0 : Int)]? = some (T.agg [T.v (Value.int IntKind.i64 (0 : Int)), T.v (Value.int IntKind.i64 (0 : Int)), T.v (Value.int IntKind.i64 (0 : Int)), T.v (Value.int IntKind.i64 (0 : Int)), T.v (Value.int IntKind.i64 (0 : Int)), T.v (Value.int IntKind.i64 (0 : Int)), T.v (Value.int IntKind.i64 (0 : Int)), T.v (Value.int IntKind.i64 (0 : Int)), T.v (Value.int IntKind.i64 (0 : Int)), T.v (Value.int IntKind.i64 (0 : Int)), T.v (Value.int IntKind.i64 (0 : Int)), T.v (Value.int IntKind.i64 (0 : Int)), T.v (Value.int IntKind.i64 (0 : Int)), T.v (Value.int IntKind.i64 (0 : Int)), T.v (Value.int IntKind.i64 (0 : Int))]) ∧ False) (TWk Tryd.prog Γ (fin Tryd.prog Tryd.f13 [(0 : Nat), (1 : Nat), (2 : Nat)] Q) [It.code (sub (bd Tryd.f13) [(1 : Nat), (1 : Nat), (1 : Nat), (0 : Nat), (1 : Nat), (0 : Nat), (0 : Nat), (1 : Nat), (1 : Nat), (0 : Nat), (0 : Nat), (1 : Nat), (1 : Nat)]), It.blk (1 : Nat), It.code (sub (bd Tryd.f13) [(1 : Nat), (1 : Nat), (1 : Nat), (0 : Nat), (1 : Nat), (0 : Nat), (0 : Nat), (1 : Nat), (1 : Nat), (1 : Nat)]), It.code (sub (bd Tryd.f13) [(1 : Nat), (1 : Nat), (1 : Nat), (0 : Nat), (1 : Nat), (0 : Nat)]), It.blk (0 : Nat), It.code (sub (bd Tryd.f13) [(1 : Nat), (1 : Nat), (1 : Nat), (1 : Nat)])] { fr := [T.und, T.sl (15 : Nat) L, T.sl (1 : Nat) O, T.und, T.und, T.und, T.und, T.ptr (4 : Nat) b7 (0 : Nat), T.und, T.v (Value.int IntKind.i64 (↑i : Int)), T.und, T.und, T.und, T.und, T.und, T.und, T.und, T.und, T.und, T.und, T.und, T.und, T.und, T.und, T.und, T.und, T.sl (1 : Nat) O, T.v (Value.int IntKind.i64 m), T.v (Value.int IntKind.i64 p), T.und, T.und, T.und, T.und, T.und, T.und, T.und, T.und, T.und, T.und, T.und, T.und, T.und, T.und, T.und, T.und, T.und, T.und, T.und, T.und, T.und, T.und, T.und, T.und, T.und, T.und, T.und, T.und, T.und, T.und, T.und, T.und, T.und, T.und, T.und], ob := [((0 : Nat), Ob.whole TC (Gs.t1 g) (Gs.f1 g)), ((1 : Nat), Ob.whole #[Value.iface (Gs.tp g) (Gs.p g)] (Gs.t2 g) (Gs.f2 g)), ((2 : Nat), Ob.whole #[Value.iface (Gs.tq g) (Gs.q g)] (Gs.t3 g) (Gs.f3 g)), (b3, Ob.cells [T.v (Value.bool (Val.h v0)), T.v (Value.string (ByteArray.mk (List.toArray (Val.t v0))))]), (b7, Ob.cells [T.v (Value.bool (Val.h w)), T.v (Value.string (ByteArray.mk (List.toArray (Val.t w))))])], gl := fun x => none })) (by kernel_rfl) ?_
    repeat' (first | exact rfl | exact Nat.le_of_ble_eq_true rfl | refine And.intro ?_ ?_ | intro _ | refine bsplit_mk (fun _ => ?_) (fun _ => ?_))
    all_goals first
      | exact hyes
      | (exfalso; simp at *; done)
      | trace_state
  | cons k r2 ih =>
    intro d2 h hi
    have hk : d[d2.length]? = some k := by rw [h]; simp
    have hlt : d2.length < d.length := (List.getElem?_eq_some_iff.1 hk).1
    have hat := ints_at hk
    have hal := ints_len d
    have hdq : d.length ≤ q.length := by rw [hq, List.length_append]; omega
    obtain ⟨j, rfl, hjl⟩ := hin k (by rw [hq]; exact List.mem_append_left _ (List.mem_of_getElem? hk))
    obtain ⟨y, hy⟩ : ∃ y, l[j]? = some y := ⟨l[j], List.getElem?_eq_getElem hjl⟩
    have hil := (List.getElem?_eq_some_iff.1 hx).1
    have hae : (Row.aggs enC l).length = l.length := Row.aggs_len l
    have ha1 : (Row.aggs enC l)[(i : Int).toNat]? = some (.agg (enC x)) := Row.aggs_at (by rw [Int.toNat_natCast]; exact hx)
    have ha2 : (Row.aggs enC l)[(j : Int).toNat]? = some (.agg (enC y)) := Row.aggs_at (by rw [Int.toNat_natCast]; exact hy)
    have c1 := ahead_post x y
    have nx := fun (ha : Jdg.ahead x y = false) => ih (d2 ++ [(j : Int)]) (by rw [h]; simp) (fun j' y' hj' hy' => by
      rcases List.mem_append.1 hj' with hj' | hj'
      · exact hi j' y' hj' hy'
      · rw [List.mem_singleton] at hj'
        have e : j' = j := Int.ofNat_inj.1 hj'
        subst e
        obtain rfl := Option.some.inj (hy.symm.trans hy')
        exact ha)
    rw [show (d2 ++ [(j : Int)]).length = d2.length + 1 by simp] at nx
    have no := fun (ha : Jdg.ahead x y = true) => hno ⟨j, y, List.mem_of_getElem? hk, hy, ha⟩
    have hw : T.v (.int .i64 (IntKind.wrap .i64 ((d2.length : Int) + 1))) = int (d2.length + 1 : Nat) := congrArg int (by rw [wrap_i64 (by omega) (by omega)]; omega)
    have hltz : decide ((d2.length : Int) < (d.length : Int)) = true := decide_eq_true (by omega)
    clear ih hno hyes h hi hq hk hin hx hy
    generalize Jdg.ahead x y = ax at *
    unfold vC obsG at *
    generalize tabC = TC at *
    generalize ints q = O at *
    generalize ints d = D at *
    generalize Row.aggs enC l = L at *
    unfold enC at *
    generalize d2.length = p2 at *
    generalize d.length = p at *
    generalize q.length = m at *
    refine run_sound (⟨fun | 9, 0 => .res (int j) | 10, 2 => .res (.agg [int x.op.k, int x.op.key, str x.op.t, bool x.op.o.h, str x.op.o.t, int x.op.n, int x.s, int x.e, int x.er, bool x.av.h, str x.av.t, u32 0, u8 0, u8 0, bool x.w]) | 10, 6 => .res (.agg [int y.op.k, int y.op.key, str y.op.t, bool y.op.o.h, str y.op.o.t, int y.op.n, int y.s, int y.e, int y.er, bool y.av.h, str y.av.t, u32 0, u8 0, u8 0, bool y.w]) | 10, 8 => told (bool ax) [] [] | 12, 0 => .res (int (p2 + 1 : Nat)) | _, _ => .no, [((2, 8), ([1, 2, 7, 9, 26, 27, 28, 35, 36, 37], 5)), ((0, 13), ([1, 2, 7, 9, 26, 27, 28], 5))], fun | 10 => some ⟨[], [8], .take true [0,1,2,3,4,5,6,7] (.one 8 .done)⟩ | 13 => some ⟨[], [5, 10], .take true [0,1,2,3,4] (.two 5 9 (.take false [6,7,8] (.one 9 (.one 10 (.take false [11] .done)))) (.one 5 (.take false [6,7,8] (.one 10 (.take false [11] .done)))))⟩ | _ => none⟩) 400 (B := bsplit (decide ((↑p2 : Int) < (↑p : Int))) ((0 : Int) ≤ (↑p2 : Int) ∧ D[Int.toNat (↑p2 : Int)]? = some (T.v (Value.int IntKind.i64 (↑j : Int))) ∧ (0 : Int) ≤ (↑i : Int) ∧ L[Int.toNat (↑i : Int)]? = some (T.agg [T.v (Value.int IntKind.i64 (Reg.Op.k (En.op x))), T.v (Value.int IntKind.i64 (Reg.Op.key (En.op x))), T.v (Value.string (ByteArray.mk (List.toArray (Reg.Op.t (En.op x))))), T.v (Value.bool (Val.h (Reg.Op.o (En.op x)))), T.v (Value.string (ByteArray.mk (List.toArray (Val.t (Reg.Op.o (En.op x)))))), T.v (Value.int IntKind.i64 (Reg.Op.n (En.op x))), T.v (Value.int IntKind.i64 (En.s x)), T.v (Value.int IntKind.i64 (En.e x)), T.v (Value.int IntKind.i64 (En.er x)), T.v (Value.bool (Val.h (En.av x))), T.v (Value.string (ByteArray.mk (List.toArray (Val.t (En.av x))))), T.v (Value.int IntKind.u32 (0 : Int)), T.v (Value.int IntKind.u8 (0 : Int)), T.v (Value.int IntKind.u8 (0 : Int)), T.v (Value.bool (En.w x))]) ∧ (0 : Int) ≤ (↑j : Int) ∧ L[Int.toNat (↑j : Int)]? = some (T.agg [T.v (Value.int IntKind.i64 (Reg.Op.k (En.op y))), T.v (Value.int IntKind.i64 (Reg.Op.key (En.op y))), T.v (Value.string (ByteArray.mk (List.toArray (Reg.Op.t (En.op y))))), T.v (Value.bool (Val.h (Reg.Op.o (En.op y)))), T.v (Value.string (ByteArray.mk (List.toArray (Val.t (Reg.Op.o (En.op y)))))), T.v (Value.int IntKind.i64 (Reg.Op.n (En.op y))), T.v (Value.int IntKind.i64 (En.s y)), T.v (Value.int IntKind.i64 (En.e y)), T.v (Value.int IntKind.i64 (En.er y)), T.v (Value.bool (Val.h (En.av y))), T.v (Value.string (ByteArray.mk (List.toArray (Val.t (En.av y))))), T.v (Value.int IntKind.u32 (0 : Int)), T.v (Value.int IntKind.u8 (0 : Int)), T.v (Value.int IntKind.u8 (0 : Int)), T.v (Value.bool (En.w y))]) ∧ TCalls Tryd.prog (17 : Nat) [T.agg [T.v (Value.int IntKind.i64 (Reg.Op.k (En.op x))), T.v (Value.int IntKind.i64 (Reg.Op.key (En.op x))), T.v (Value.string (ByteArray.mk (List.toArray (Reg.Op.t (En.op x))))), T.v (Value.bool (Val.h (Reg.Op.o (En.op x)))), T.v (Value.string (ByteArray.mk (List.toArray (Val.t (Reg.Op.o (En.op x)))))), T.v (Value.int IntKind.i64 (Reg.Op.n (En.op x))), T.v (Value.int IntKind.i64 (En.s x)), T.v (Value.int IntKind.i64 (En.e x)), T.v (Value.int IntKind.i64 (En.er x)), T.v (Value.bool (Val.h (En.av x))), T.v (Value.string (ByteArray.mk (List.toArray (Val.t (En.av x))))), T.v (Value.int IntKind.u32 (0 : Int)), T.v (Value.int IntKind.u8 (0 : Int)), T.v (Value.int IntKind.u8 (0 : Int)), T.v (Value.bool (En.w x))], T.agg [T.v (Value.int IntKind.i64 (Reg.Op.k (En.op y))), T.v (Value.int IntKind.i64 (Reg.Op.key (En.op y))), T.v (Value.string (ByteArray.mk (List.toArray (Reg.Op.t (En.op y))))), T.v (Value.bool (Val.h (Reg.Op.o (En.op y)))), T.v (Value.string (ByteArray.mk (List.toArray (Val.t (Reg.Op.o (En.op y)))))), T.v (Value.int IntKind.i64 (Reg.Op.n (En.op y))), T.v (Value.int IntKind.i64 (En.s y)), T.v (Value.int IntKind.i64 (En.e y)), T.v (Value.int IntKind.i64 (En.er y)), T.v (Value.bool (Val.h (En.av y))), T.v (Value.string (ByteArray.mk (List.toArray (Val.t (En.av y))))), T.v (Value.int IntKind.u32 (0 : Int)), T.v (Value.int IntKind.u8 (0 : Int)), T.v (Value.int IntKind.u8 (0 : Int)), T.v (Value.bool (En.w y))]] [] (fun x => none) (callPost (Hint.call false Unit (fun x => True) [] false (fun x => bool ax) (fun x => []) fun x => none_)) ∧ ∀ (a : Unit), True → bsplit ax (Q (T.v (Value.bool false)) [((0 : Nat), Ob.whole TC (Gs.t1 g) (Gs.f1 g)), ((1 : Nat), Ob.whole #[Value.iface (Gs.tp g) (Gs.p g)] (Gs.t2 g) (Gs.f2 g)), ((2 : Nat), Ob.whole #[Value.iface (Gs.tq g) (Gs.q g)] (Gs.t3 g) (Gs.f3 g))] fun x => none) (T.v (Value.int IntKind.i64 (IntKind.wrap IntKind.i64 ((↑p2 : Int) + (1 : Int)))) = T.v (Value.int IntKind.i64 (↑(p2 + (1 : Nat)) : Int)) ∧ TWk Tryd.prog Γ (fin Tryd.prog Tryd.f13 [(0 : Nat), (1 : Nat), (2 : Nat)] Q) [It.code (sub (bd Tryd.f13) [(1 : Nat), (1 : Nat), (1 : Nat), (0 : Nat), (1 : Nat), (0 : Nat), (0 : Nat), (1 : Nat), (1 : Nat), (0 : Nat), (0 : Nat), (1 : Nat), (0 : Nat), (1 : Nat), (0 : Nat)]), It.blk (2 : Nat), It.code (sub (bd Tryd.f13) [(1 : Nat), (1 : Nat), (1 : Nat), (0 : Nat), (1 : Nat), (0 : Nat), (0 : Nat), (1 : Nat), (1 : Nat), (0 : Nat), (0 : Nat), (1 : Nat), (1 : Nat)]), It.blk (1 : Nat), It.code (sub (bd Tryd.f13) [(1 : Nat), (1 : Nat), (1 : Nat), (0 : Nat), (1 : Nat), (0 : Nat), (0 : Nat), (1 : Nat), (1 : Nat), (1 : Nat)]), It.code (sub (bd Tryd.f13) [(1 : Nat), (1 : Nat), (1 : Nat), (0 : Nat), (1 : Nat), (0 : Nat)]), It.blk (0 : Nat), It.code (sub (bd Tryd.f13) [(1 : Nat), (1 : Nat), (1 : Nat), (1 : Nat)])] { fr := [T.und, T.sl (15 : Nat) L, T.sl (1 : Nat) O, T.und, T.und, T.und, T.und, T.ptr (4 : Nat) b7 (0 : Nat), T.und, T.v (Value.int IntKind.i64 (↑i : Int)), T.und, T.und, T.und, T.und, T.und, T.und, T.und, T.und, T.und, T.und, T.und, T.und, T.und, T.und, T.und, T.und, T.sl (1 : Nat) O, T.v (Value.int IntKind.i64 (↑m : Int)), T.v (Value.int IntKind.i64 (↑p : Int)), T.und, T.und, T.und, T.und, T.und, T.und, T.sl (1 : Nat) D, T.v (Value.int IntKind.i64 (↑p : Int)), T.v (Value.int IntKind.i64 (↑(p2 + (1 : Nat)) : Int)), T.und, T.und, T.und, T.und, T.und, T.und, T.und, T.und, T.und, T.und, T.und, T.und, T.und, T.und, T.und, T.und, T.und, T.und, T.und, T.und, T.und, T.und, T.und, T.und, T.und, T.und], ob := [((0 : Nat), Ob.whole TC (Gs.t1 g) (Gs.f1 g)), ((1 : Nat), Ob.whole #[Value.iface (Gs.tp g) (Gs.p g)] (Gs.t2 g) (Gs.f2 g)), ((2 : Nat), Ob.whole #[Value.iface (Gs.tq g) (Gs.q g)] (Gs.t3 g) (Gs.f3 g)), (b3, Ob.cells [T.v (Value.bool (Val.h v0)), T.v (Value.string (ByteArray.mk (List.toArray (Val.t v0))))]), (b7, Ob.cells [T.v (Value.bool (Val.h w)), T.v (Value.string (ByteArray.mk (List.toArray (Val.t w))))])], gl := fun x => none })) (TWk Tryd.prog Γ (fin Tryd.prog Tryd.f13 [(0 : Nat), (1 : Nat), (2 : Nat)] Q) [It.code (sub (bd Tryd.f13) [(1 : Nat), (1 : Nat), (1 : Nat), (0 : Nat), (1 : Nat), (0 : Nat), (0 : Nat), (1 : Nat), (1 : Nat), (0 : Nat), (0 : Nat), (1 : Nat), (1 : Nat)]), It.blk (1 : Nat), It.code (sub (bd Tryd.f13) [(1 : Nat), (1 : Nat), (1 : Nat), (0 : Nat), (1 : Nat), (0 : Nat), (0 : Nat), (1 : Nat), (1 : Nat), (1 : Nat)]), It.code (sub (bd Tryd.f13) [(1 : Nat), (1 : Nat), (1 : Nat), (0 : Nat), (1 : Nat), (0 : Nat)]), It.blk (0 : Nat), It.code (sub (bd Tryd.f13) [(1 : Nat), (1 : Nat), (1 : Nat), (1 : Nat)])] { fr := [T.und, T.sl (15 : Nat) L, T.sl (1 : Nat) O, T.und, T.und, T.und, T.und, T.ptr (4 : Nat) b7 (0 : Nat), T.und, T.v (Value.int IntKind.i64 (↑i : Int)), T.und, T.und, T.und, T.und, T.und, T.und, T.und, T.und, T.und, T.und, T.und, T.und, T.und, T.und, T.und, T.und, T.sl (1 : Nat) O, T.v (Value.int IntKind.i64 (↑m : Int)), T.v (Value.int IntKind.i64 (↑p : Int)), T.und, T.und, T.und, T.und, T.und, T.und, T.und, T.und, T.und, T.und, T.und, T.und, T.und, T.und, T.und, T.und, T.und, T.und, T.und, T.und, T.und, T.und, T.und, T.und, T.und, T.und, T.und, T.und, T.und, T.und, T.und, T.und, T.und, T.und, T.und], ob := [((0 : Nat), Ob.whole TC (Gs.t1 g) (Gs.f1 g)), ((1 : Nat), Ob.whole #[Value.iface (Gs.tp g) (Gs.p g)] (Gs.t2 g) (Gs.f2 g)), ((2 : Nat), Ob.whole #[Value.iface (Gs.tq g) (Gs.q g)] (Gs.t3 g) (Gs.f3 g)), (b3, Ob.cells [T.v (Value.bool (Val.h v0)), T.v (Value.string (ByteArray.mk (List.toArray (Val.t v0))))]), (b7, Ob.cells [T.v (Value.bool (Val.h w)), T.v (Value.string (ByteArray.mk (List.toArray (Val.t w))))])], gl := fun x => none })) (by kernel_rfl) ?_
    repeat' (first | exact rfl | exact Nat.le_of_ble_eq_true rfl | refine And.intro ?_ ?_ | intro _ | refine bsplit_mk (fun _ => ?_) (fun _ => ?_))
    all_goals first
      | exact hat
      | exact ha1
      | exact ha2
      | exact hw
      | exact c1
      | exact Int.natCast_nonneg _
      | exact no ‹ax = true›
      | exact nx ‹ax = false›
      | (exfalso; rename_i h; rw [hltz] at h; cases h; done)
      | omega
      | trace_state
theorem jr_step (w : Val) (hw : w.t.length ≤ 100) (d : List Int) (i : Nat) (x : En) (hx : l[i]? = some x) (hi : In64 x.op.n) (hlen : d.length < 1000000) (hm : d.length < q.length)
    (no : fits x (applyR w x.op) = false → Q (bool false) (obsG g) none_)
    (nx : fits x (applyR w x.op) = true → TWk Tryd.prog Γ (fin Tryd.prog Tryd.f13 [0, 1, 2] Q) [.code (sub (bd Tryd.f13) [1, 1, 1, 0, 1, 0]), .blk 0, .code (sub (bd Tryd.f13) [1, 1, 1, 1])] ⟨frame 64 [(1, .sl 15 (Row.aggs enC l)), (2, .sl 1 (ints q)), (7, .ptr 4 b7 0), (26, .sl 1 (ints q)), (27, int q.length), (28, int (d.length + 1 : Nat))], obsG g ++ [(b3, .cells (vC v0)), (b7, .cells (vC (applyR w x.op).v))], none_⟩) :
    TWk Tryd.prog Γ (fin Tryd.prog Tryd.f13 [0, 1, 2] Q) [.code (sub (bd Tryd.f13) [1, 1, 1, 0, 1, 0, 0, 1, 1, 0, 0, 1, 1]), .blk 1, .code (sub (bd Tryd.f13) [1, 1, 1, 0, 1, 0, 0, 1, 1, 1]), .code (sub (bd Tryd.f13) [1, 1, 1, 0, 1, 0]), .blk 0, .code (sub (bd Tryd.f13) [1, 1, 1, 1])] ⟨frame 64 [(1, .sl 15 (Row.aggs enC l)), (2, .sl 1 (ints q)), (7, .ptr 4 b7 0), (9, int i), (26, .sl 1 (ints q)), (27, int q.length), (28, int d.length)], obsG g ++ [(b3, .cells (vC v0)), (b7, .cells (vC w))], none_⟩ := by
  have c1 := japply_post g w (by omega) x hi
  have hil := (List.getElem?_eq_some_iff.1 hx).1
  have hae : (Row.aggs enC l).length = l.length := Row.aggs_len l
  have ha1 : (Row.aggs enC l)[(i : Int).toNat]? = some (.agg (enC x)) := Row.aggs_at (by rw [Int.toNat_natCast]; exact hx)
  have hw1 : T.v (.int .i64 (IntKind.wrap .i64 ((d.length : Int) + 1))) = int (d.length + 1 : Nat) := congrArg int (by rw [wrap_i64 (by omega) (by omega)]; omega)
  clear hx hi
  unfold retJ at c1
  generalize fits x (applyR w x.op) = ok at *
  generalize (applyR w x.op).v = w' at *
  unfold vC obsG at *
  generalize tabC = TC at *
  generalize ints q = O at *
  generalize Row.aggs enC l = L at *
  unfold enC at *
  generalize d.length = p at *
  generalize q.length = m at *
  refine run_sound (⟨fun | 13, 3 => .res (.agg [int x.op.k, int x.op.key, str x.op.t, bool x.op.o.h, str x.op.o.t, int x.op.n, int x.s, int x.e, int x.er, bool x.av.h, str x.av.t, u32 0, u8 0, u8 0, bool x.w]) | 13, 5 => told (.tup [.agg [bool w'.h, str w'.t], bool ok]) [0, 1, 2] [(0, .whole TC g.t1 g.f1), (1, .whole #[.iface g.tp g.p] g.t2 g.f2), (2, .whole #[.iface g.tq g.q] g.t3 g.f3)] | 17, 0 => .res (int (p + 1 : Nat)) | _, _ => .no, [((2, 5), ([1, 2, 7, 26, 27, 28], 5))], fun | 10 => some ⟨[], [8], .take true [0,1,2,3,4,5,6,7] (.one 8 .done)⟩ | 13 => some ⟨[4], [5, 10], .take true [0,1,2,3,4] (.two 5 9 (.take false [6,7,8] (.one 9 (.one 10 (.take false [11] .done)))) (.one 5 (.take false [6,7,8] (.one 10 (.take false [11] .done)))))⟩ | _ => none⟩) 400 (B := b7 = b7 ∧ (0 : Int) ≤ (↑i : Int) ∧ L[Int.toNat (↑i : Int)]? = some (T.agg [T.v (Value.int IntKind.i64 (Reg.Op.k (En.op x))), T.v (Value.int IntKind.i64 (Reg.Op.key (En.op x))), T.v (Value.string (ByteArray.mk (List.toArray (Reg.Op.t (En.op x))))), T.v (Value.bool (Val.h (Reg.Op.o (En.op x)))), T.v (Value.string (ByteArray.mk (List.toArray (Val.t (Reg.Op.o (En.op x)))))), T.v (Value.int IntKind.i64 (Reg.Op.n (En.op x))), T.v (Value.int IntKind.i64 (En.s x)), T.v (Value.int IntKind.i64 (En.e x)), T.v (Value.int IntKind.i64 (En.er x)), T.v (Value.bool (Val.h (En.av x))), T.v (Value.string (ByteArray.mk (List.toArray (Val.t (En.av x))))), T.v (Value.int IntKind.u32 (0 : Int)), T.v (Value.int IntKind.u8 (0 : Int)), T.v (Value.int IntKind.u8 (0 : Int)), T.v (Value.bool (En.w x))]) ∧ (TCalls Tryd.prog (21 : Nat) [T.agg [T.v (Value.bool (Val.h w)), T.v (Value.string (ByteArray.mk (List.toArray (Val.t w))))], T.agg [T.v (Value.int IntKind.i64 (Reg.Op.k (En.op x))), T.v (Value.int IntKind.i64 (Reg.Op.key (En.op x))), T.v (Value.string (ByteArray.mk (List.toArray (Reg.Op.t (En.op x))))), T.v (Value.bool (Val.h (Reg.Op.o (En.op x)))), T.v (Value.string (ByteArray.mk (List.toArray (Val.t (Reg.Op.o (En.op x)))))), T.v (Value.int IntKind.i64 (Reg.Op.n (En.op x))), T.v (Value.int IntKind.i64 (En.s x)), T.v (Value.int IntKind.i64 (En.e x)), T.v (Value.int IntKind.i64 (En.er x)), T.v (Value.bool (Val.h (En.av x))), T.v (Value.string (ByteArray.mk (List.toArray (Val.t (En.av x))))), T.v (Value.int IntKind.u32 (0 : Int)), T.v (Value.int IntKind.u8 (0 : Int)), T.v (Value.int IntKind.u8 (0 : Int)), T.v (Value.bool (En.w x))]] [((0 : Nat), Ob.whole TC (Gs.t1 g) (Gs.f1 g)), ((1 : Nat), Ob.whole #[Value.iface (Gs.tp g) (Gs.p g)] (Gs.t2 g) (Gs.f2 g)), ((2 : Nat), Ob.whole #[Value.iface (Gs.tq g) (Gs.q g)] (Gs.t3 g) (Gs.f3 g))] (fun x => none) (callPost (Hint.call false Unit (fun x => True) [(0 : Nat), (1 : Nat), (2 : Nat)] false (fun x => T.tup [T.agg [bool (Val.h w'), str (Val.t w')], bool ok]) (fun x => [((0 : Nat), Ob.whole TC (Gs.t1 g) (Gs.f1 g)), ((1 : Nat), Ob.whole #[Value.iface (Gs.tp g) (Gs.p g)] (Gs.t2 g) (Gs.f2 g)), ((2 : Nat), Ob.whole #[Value.iface (Gs.tq g) (Gs.q g)] (Gs.t3 g) (Gs.f3 g))]) fun x => none_)) ∧ ∀ (a : Unit), True → ∀ (b : Nat), ((2 : Nat) = nat_lit 2 ∧ List.all [T.v (Value.bool (Val.h w')), T.v (Value.string (ByteArray.mk (List.toArray (Val.t w'))))] T.one = true) ∧ b = b ∧ (0 : Nat) + nat_lit 2 ≤ (2 : Nat) ∧ bsplit (!ok) (Q (T.v (Value.bool false)) [((0 : Nat), Ob.whole TC (Gs.t1 g) (Gs.f1 g)), ((1 : Nat), Ob.whole #[Value.iface (Gs.tp g) (Gs.p g)] (Gs.t2 g) (Gs.f2 g)), ((2 : Nat), Ob.whole #[Value.iface (Gs.tq g) (Gs.q g)] (Gs.t3 g) (Gs.f3 g))] fun x => none) (b = b ∧ ((2 : Nat) = nat_lit 2 ∧ List.all [T.v (Value.bool (Val.h w')), T.v (Value.string (ByteArray.mk (List.toArray (Val.t w'))))] T.one = true) ∧ b7 = b7 ∧ (0 : Nat) + nat_lit 2 ≤ (2 : Nat) ∧ T.v (Value.int IntKind.i64 (IntKind.wrap IntKind.i64 ((↑p : Int) + (1 : Int)))) = T.v (Value.int IntKind.i64 (↑(p + (1 : Nat)) : Int)) ∧ TWk Tryd.prog Γ (fin Tryd.prog Tryd.f13 [(0 : Nat), (1 : Nat), (2 : Nat)] Q) [It.code (sub (bd Tryd.f13) [(1 : Nat), (1 : Nat), (1 : Nat), (0 : Nat), (1 : Nat), (0 : Nat)]), It.blk (0 : Nat), It.code (sub (bd Tryd.f13) [(1 : Nat), (1 : Nat), (1 : Nat), (1 : Nat)])] { fr := [T.und, T.sl (15 : Nat) L, T.sl (1 : Nat) O, T.und, T.und, T.und, T.und, T.ptr (4 : Nat) b7 (0 : Nat), T.und, T.und, T.und, T.und, T.und, T.und, T.und, T.und, T.und, T.und, T.und, T.und, T.und, T.und, T.und, T.und, T.und, T.und, T.sl (1 : Nat) O, T.v (Value.int IntKind.i64 (↑m : Int)), T.v (Value.int IntKind.i64 (↑(p + (1 : Nat)) : Int)), T.und, T.und, T.und, T.und, T.und, T.und, T.und, T.und, T.und, T.und, T.und, T.und, T.und, T.und, T.und, T.und, T.und, T.und, T.und, T.und, T.und, T.und, T.und, T.und, T.und, T.und, T.und, T.und, T.und, T.und, T.und, T.und, T.und, T.und, T.und], ob := [((0 : Nat), Ob.whole TC (Gs.t1 g) (Gs.f1 g)), ((1 : Nat), Ob.whole #[Value.iface (Gs.tp g) (Gs.p g)] (Gs.t2 g) (Gs.f2 g)), ((2 : Nat), Ob.whole #[Value.iface (Gs.tq g) (Gs.q g)] (Gs.t3 g) (Gs.f3 g)), (b3, Ob.cells [T.v (Value.bool (Val.h v0)), T.v (Value.string (ByteArray.mk (List.toArray (Val.t v0))))]), (b7, Ob.cells [T.v (Value.bool (Val.h w')), T.v (Value.string (ByteArray.mk (List.toArray (Val.t w'))))])], gl := fun x => none })) ∧ ∀ (b : Nat), TCalls Tryd.prog (21 : Nat) [T.agg [T.v (Value.bool (Val.h w)), T.v (Value.string (ByteArray.mk (List.toArray (Val.t w))))], T.agg [T.v (Value.int IntKind.i64 (Reg.Op.k (En.op x))), T.v (Value.int IntKind.i64 (Reg.Op.key (En.op x))), T.v (Value.string (ByteArray.mk (List.toArray (Reg.Op.t (En.op x))))), T.v (Value.bool (Val.h (Reg.Op.o (En.op x)))), T.v (Value.string (ByteArray.mk (List.toArray (Val.t (Reg.Op.o (En.op x)))))), T.v (Value.int IntKind.i64 (Reg.Op.n (En.op x))), T.v (Value.int IntKind.i64 (En.s x)), T.v (Value.int IntKind.i64 (En.e x)), T.v (Value.int IntKind.i64 (En.er x)), T.v (Value.bool (Val.h (En.av x))), T.v (Value.string (ByteArray.mk (List.toArray (Val.t (En.av x))))), T.v (Value.int IntKind.u32 (0 : Int)), T.v (Value.int IntKind.u8 (0 : Int)), T.v (Value.int IntKind.u8 (0 : Int)), T.v (Value.bool (En.w x))]] [((0 : Nat), Ob.whole TC (Gs.t1 g) (Gs.f1 g)), ((1 : Nat), Ob.whole #[Value.iface (Gs.tp g) (Gs.p g)] (Gs.t2 g) (Gs.f2 g)), ((2 : Nat), Ob.whole #[Value.iface (Gs.tq g) (Gs.q g)] (Gs.t3 g) (Gs.f3 g))] (fun x => none) (callPost (Hint.call false Unit (fun x => True) [(0 : Nat), (1 : Nat), (2 : Nat)] false (fun x => T.tup [T.agg [bool (Val.h w'), str (Val.t w')], bool ok]) (fun x => [((0 : Nat), Ob.whole TC (Gs.t1 g) (Gs.f1 g)), ((1 : Nat), Ob.whole #[Value.iface (Gs.tp g) (Gs.p g)] (Gs.t2 g) (Gs.f2 g)), ((2 : Nat), Ob.whole #[Value.iface (Gs.tq g) (Gs.q g)] (Gs.t3 g) (Gs.f3 g))]) fun x => none_)) ∧ ∀ (a : Unit), True → ((2 : Nat) = nat_lit 2 ∧ List.all [T.v (Value.bool (Val.h w')), T.v (Value.string (ByteArray.mk (List.toArray (Val.t w'))))] T.one = true) ∧ b = b ∧ (0 : Nat) + nat_lit 2 ≤ (2 : Nat) ∧ bsplit (!ok) (Q (T.v (Value.bool false)) [((0 : Nat), Ob.whole TC (Gs.t1 g) (Gs.f1 g)), ((1 : Nat), Ob.whole #[Value.iface (Gs.tp g) (Gs.p g)] (Gs.t2 g) (Gs.f2 g)), ((2 : Nat), Ob.whole #[Value.iface (Gs.tq g) (Gs.q g)] (Gs.t3 g) (Gs.f3 g))] fun x => none) (b = b ∧ ((2 : Nat) = nat_lit 2 ∧ List.all [T.v (Value.bool (Val.h w')), T.v (Value.string (ByteArray.mk (List.toArray (Val.t w'))))] T.one = true) ∧ b7 = b7 ∧ (0 : Nat) + nat_lit 2 ≤ (2 : Nat) ∧ T.v (Value.int IntKind.i64 (IntKind.wrap IntKind.i64 ((↑p : Int) + (1 : Int)))) = T.v (Value.int IntKind.i64 (↑(p + (1 : Nat)) : Int)) ∧ TWk Tryd.prog Γ (fin Tryd.prog Tryd.f13 [(0 : Nat), (1 : Nat), (2 : Nat)] Q) [It.code (sub (bd Tryd.f13) [(1 : Nat), (1 : Nat), (1 : Nat), (0 : Nat), (1 : Nat), (0 : Nat)]), It.blk (0 : Nat), It.code (sub (bd Tryd.f13) [(1 : Nat), (1 : Nat), (1 : Nat), (1 : Nat)])] { fr := [T.und, T.sl (15 : Nat) L, T.sl (1 : Nat) O, T.und, T.und, T.und, T.und, T.ptr (4 : Nat) b7 (0 : Nat), T.und, T.und, T.und, T.und, T.und, T.und, T.und, T.und, T.und, T.und, T.und, T.und, T.und, T.und, T.und, T.und, T.und, T.und, T.sl (1 : Nat) O, T.v (Value.int IntKind.i64 (↑m : Int)), T.v (Value.int IntKind.i64 (↑(p + (1 : Nat)) : Int)), T.und, T.und, T.und, T.und, T.und, T.und, T.und, T.und, T.und, T.und, T.und, T.und, T.und, T.und, T.und, T.und, T.und, T.und, T.und, T.und, T.und, T.und, T.und, T.und, T.und, T.und, T.und, T.und, T.und, T.und, T.und, T.und, T.und, T.und, T.und], ob := [((0 : Nat), Ob.whole TC (Gs.t1 g) (Gs.f1 g)), ((1 : Nat), Ob.whole #[Value.iface (Gs.tp g) (Gs.p g)] (Gs.t2 g) (Gs.f2 g)), ((2 : Nat), Ob.whole #[Value.iface (Gs.tq g) (Gs.q g)] (Gs.t3 g) (Gs.f3 g)), (b3, Ob.cells [T.v (Value.bool (Val.h v0)), T.v (Value.string (ByteArray.mk (List.toArray (Val.t v0))))]), (b7, Ob.cells [T.v (Value.bool (Val.h w')), T.v (Value.string (ByteArray.mk (List.toArray (Val.t w'))))])], gl := fun x => none })) (by kernel_rfl) ?_
  repeat' (first | exact rfl | exact Nat.le_of_ble_eq_true rfl | refine And.intro ?_ ?_ | intro _ | refine bsplit_mk (fun _ => ?_) (fun _ => ?_))
  all_goals first
    | exact ha1
    | exact hw1
    | exact c1
    | exact Int.natCast_nonneg _
    | exact no (by simpa using ‹(!ok) = true›)
    | exact nx (by simpa using ‹(!ok) = false›)
    | omega
    | trace_state
theorem jr_loop (hn : l.length ≤ 1000000) (hl : q.length ≤ 1000000) (hio : ∀ x ∈ l, In64 x.op.n) (hin : ∀ k ∈ q, ∃ i : Nat, k = i ∧ i < l.length) : ∀ (r d : List Int) (w : Val), q = d ++ r → w.t.length ≤ 100 → (∀ c : Bool, (c = true ↔ Walk l w d r) → Q (bool c) (obsG g) none_) →
    TWk Tryd.prog Γ (fin Tryd.prog Tryd.f13 [0, 1, 2] Q) [.code (sub (bd Tryd.f13) [1, 1, 1, 0, 1, 0]), .blk 0, .code (sub (bd Tryd.f13) [1, 1, 1, 1])] ⟨frame 64 [(1, .sl 15 (Row.aggs enC l)), (2, .sl 1 (ints q)), (7, .ptr 4 b7 0), (26, .sl 1 (ints q)), (27, int q.length), (28, int d.length)], obsG g ++ [(b3, .cells (vC v0)), (b7, .cells (vC w))], none_⟩ := by
  intro r
  induction r with
  | nil =>
    intro d w h hw hQ
    have hQ := hQ true ⟨fun _ => trivial, fun _ => rfl⟩
    have hlt : (d.length : Int) = (q.length : Int) := by rw [h]; simp
    rw [hlt]
    clear h hlt hin hio
    unfold vC obsG at *
    generalize tabC = TC at *
    generalize ints q = O at *
    generalize Row.aggs enC l = L at *
    generalize (q.length : Int) = m at *
    refine run_sound (⟨fun | 6, 1 => .res (int 0) | _, _ => .no, [((2, 5), ([1, 2, 7, 26, 27, 28], 5)), ((2, 8), ([1, 2, 7, 9, 26, 27, 28, 35, 36, 37], 5))], fun | 10 => some ⟨[], [8], .take true [0,1,2,3,4,5,6,7] (.one 8 .done)⟩ | 13 => some ⟨[], [5, 10], .take true [0,1,2,3,4] (.two 5 9 (.take false [6,7,8] (.one 9 (.one 10 (.take false [11] .done)))) (.one 5 (.take false [6,7,8] (.one 10 (.take false [11] .done)))))⟩ | _ => none⟩) 400 (B := bsplit (decide (m < m)) ((0 : Int) ≤ m ∧ O[Int.toNat m]? = some (T.v (Value.int IntKind.i64 (0 : Int))) ∧ ((0 : Int) ≤ (↑(0 : Nat) : Int) ∧ (↑(0 : Nat) : Int) ≤ Prod.snd (IntKind.i64, m) ∧ Prod.snd (IntKind.i64, m) ≤ (↑(List.length O) : Int)) ∧ TWk Tryd.prog Γ (fin Tryd.prog Tryd.f13 [(0 : Nat), (1 : Nat), (2 : Nat)] Q) [It.code (sub (bd Tryd.f13) [(1 : Nat), (1 : Nat), (1 : Nat), (0 : Nat), (1 : Nat), (0 : Nat), (0 : Nat), (1 : Nat), (1 : Nat), (0 : Nat), (0 : Nat), (1 : Nat), (0 : Nat), (1 : Nat), (0 : Nat)]), It.blk (2 : Nat), It.code (sub (bd Tryd.f13) [(1 : Nat), (1 : Nat), (1 : Nat), (0 : Nat), (1 : Nat), (0 : Nat), (0 : Nat), (1 : Nat), (1 : Nat), (0 : Nat), (0 : Nat), (1 : Nat), (1 : Nat)]), It.blk (1 : Nat), It.code (sub (bd Tryd.f13) [(1 : Nat), (1 : Nat), (1 : Nat), (0 : Nat), (1 : Nat), (0 : Nat), (0 : Nat), (1 : Nat), (1 : Nat), (1 : Nat)]), It.code (sub (bd Tryd.f13) [(1 : Nat), (1 : Nat), (1 : Nat), (0 : Nat), (1 : Nat), (0 : Nat)]), It.blk (0 : Nat), It.code (sub (bd Tryd.f13) [(1 : Nat), (1 : Nat), (1 : Nat), (1 : Nat)])] { fr := [T.und, T.sl (15 : Nat) L, T.sl (1 : Nat) O, T.und, T.und, T.und, T.und, T.ptr (4 : Nat) b7 (0 : Nat), T.und, T.v (Value.int IntKind.i64 (0 : Int)), T.und, T.und, T.und, T.und, T.und, T.und, T.und, T.und, T.und, T.und, T.und, T.und, T.und, T.und, T.und, T.und, T.sl (1 : Nat) O, T.v (Value.int IntKind.i64 m), T.v (Value.int IntKind.i64 m), T.und, T.und, T.und, T.und, T.und, T.und, T.sl (1 : Nat) (List.drop (Int.toNat (↑(0 : Nat) : Int)) (List.take (Int.toNat (Prod.snd (IntKind.i64, m))) O)), T.v (Value.int IntKind.i64 (↑(List.length (List.drop (Int.toNat (↑(0 : Nat) : Int)) (List.take (Int.toNat (Prod.snd (IntKind.i64, m))) O))) : Int)), T.v (Value.int IntKind.i64 (0 : Int)), T.und, T.und, T.und, T.und, T.und, T.und, T.und, T.und, T.und, T.und, T.und, T.und, T.und, T.und, T.und, T.und, T.und, T.und, T.und, T.und, T.und, T.und, T.und, T.und, T.und, T.und], ob := [((0 : Nat), Ob.whole TC (Gs.t1 g) (Gs.f1 g)), ((1 : Nat), Ob.whole #[Value.iface (Gs.tp g) (Gs.p g)] (Gs.t2 g) (Gs.f2 g)), ((2 : Nat), Ob.whole #[Value.iface (Gs.tq g) (Gs.q g)] (Gs.t3 g) (Gs.f3 g)), (b3, Ob.cells [T.v (Value.bool (Val.h v0)), T.v (Value.string (ByteArray.mk (List.toArray (Val.t v0))))]), (b7, Ob.cells [T.v (Value.bool (Val.h w)), T.v (Value.string (ByteArray.mk (List.toArray (Val.t w))))])], gl := fun x => none }) (Q (T.v (Value.bool true)) [((0 : Nat), Ob.whole TC (Gs.t1 g) (Gs.f1 g)), ((1 : Nat), Ob.whole #[Value.iface (Gs.tp g) (Gs.p g)] (Gs.t2 g) (Gs.f2 g)), ((2 : Nat), Ob.whole #[Value.iface (Gs.tq g) (Gs.q g)] (Gs.t3 g) (Gs.f3 g))] fun x => none)) (by kernel_rfl) ?_
    repeat' (first | exact rfl | exact Nat.le_of_ble_eq_true rfl | refine And.intro ?_ ?_ | intro _ | refine bsplit_mk (fun _ => ?_) (fun _ => ?_))
    all_goals first
      | exact hQ
      | (exfalso; simp at *; done)
      | trace_state
  | cons k r ih =>
    intro d w h hw hQ
    have hk : q[d.length]? = some k := by rw [h]; simp
    have hlt : d.length < q.length := (List.getElem?_eq_some_iff.1 hk).1
    have hat := ints_at hk
    have hal := ints_len q
    have htk : (ints q).take d.length = ints d := by unfold ints; rw [← List.map_take, h]; simp
    obtain ⟨i, rfl, hil⟩ := hin k (List.mem_of_getElem? hk)
    obtain ⟨x, hx⟩ : ∃ x, l[i]? = some x := ⟨l[i], List.getElem?_eq_getElem hil⟩
    have hxi := hio x (List.mem_of_getElem? hx)
    have hnx : ∀ v', next w x = some v' ↔ fits x (applyR w x.op) = true ∧ v' = (applyR w x.op).v := fun v' => by
      unfold Jdg.next
      split
      · rename_i hf
        rw [hf]
        exact ⟨fun h => ⟨rfl, (Option.some.inj h).symm⟩, fun h => by rw [h.2]⟩
      · rename_i hf
        exact ⟨fun h => (by cases h), fun h => absurd h.1 hf⟩
    have wk : Walk l w d ((i : Int) :: r) ↔ (∀ (j : Nat) y, (j : Int) ∈ d → l[j]? = some y → Jdg.ahead x y = false) ∧ fits x (applyR w x.op) = true ∧ Walk l (applyR w x.op).v (d ++ [(i : Int)]) r := by
      constructor
      · rintro ⟨i', x', v', hk', hx', ha, hn', hwk⟩
        obtain rfl := Int.ofNat_inj.1 hk'
        obtain rfl := Option.some.inj (hx.symm.trans hx')
        obtain ⟨h1, rfl⟩ := (hnx v').1 hn'
        exact ⟨ha, h1, hwk⟩
      · rintro ⟨ha, h1, hwk⟩
        exact ⟨i, x, _, rfl, hx, ha, (hnx _).2 ⟨h1, rfl⟩, hwk⟩
    have inn := jr_inner Γ g b3 b7 l q v0 Q hn hl w d ((i : Int) :: r) h i x hx hin
      (fun ⟨j, y, h1, h2, h3⟩ => hQ false ⟨fun e => (by cases e), fun e => by rw [(wk.1 e).1 j y h1 h2] at h3; cases h3⟩)
      (fun ha => jr_step Γ g b3 b7 l q v0 Q w hw d i x hx hxi (by omega) hlt
        (fun hf => hQ false ⟨fun e => (by cases e), fun e => by rw [(wk.1 e).2.1] at hf; cases hf⟩)
        (fun hf => by
          have := ih (d ++ [(i : Int)]) (applyR w x.op).v (by rw [h]; simp) (Reg.applyR_len hw x.op) (fun c hc => hQ c (hc.trans ⟨fun e => wk.2 ⟨ha, hf, e⟩, fun e => (wk.1 e).2.2⟩))
          rwa [show (d ++ [(i : Int)]).length = d.length + 1 by simp] at this)) d [] rfl (fun j y hj => by cases hj)
    have hld := ints_len d
    have hltz : decide ((d.length : Int) < (q.length : Int)) = true := decide_eq_true (by omega)
    clear ih hQ h hk hin hx hnx wk hxi hio
    rw [← htk] at inn
    clear htk hld
    unfold vC obsG at *
    generalize tabC = TC at *
    generalize ints q = O at *
    generalize Row.aggs enC l = L at *
    generalize d.length = p at *
    generalize q.length = m at *
    refine run_sound (⟨fun | 6, 1 => .res (int i) | _, _ => .no, [((2, 5), ([1, 2, 7, 26, 27, 28], 5)), ((2, 8), ([1, 2, 7, 9, 26, 27, 28, 35, 36, 37], 5))], fun | 10 => some ⟨[], [8], .take true [0,1,2,3,4,5,6,7] (.one 8 .done)⟩ | 13 => some ⟨[], [5, 10], .take true [0,1,2,3,4] (.two 5 9 (.take false [6,7,8] (.one 9 (.one 10 (.take false [11] .done)))) (.one 5 (.take false [6,7,8] (.one 10 (.take false [11] .done)))))⟩ | _ => none⟩) 400 (B := bsplit (decide ((↑p : Int) < (↑m : Int))) ((0 : Int) ≤ (↑p : Int) ∧ O[Int.toNat (↑p : Int)]? = some (T.v (Value.int IntKind.i64 (↑i : Int))) ∧ ((0 : Int) ≤ (↑(0 : Nat) : Int) ∧ (↑(0 : Nat) : Int) ≤ Prod.snd (IntKind.i64, (↑p : Int)) ∧ Prod.snd (IntKind.i64, (↑p : Int)) ≤ (↑(List.length O) : Int)) ∧ TWk Tryd.prog Γ (fin Tryd.prog Tryd.f13 [(0 : Nat), (1 : Nat), (2 : Nat)] Q) [It.code (sub (bd Tryd.f13) [(1 : Nat), (1 : Nat), (1 : Nat), (0 : Nat), (1 : Nat), (0 : Nat), (0 : Nat), (1 : Nat), (1 : Nat), (0 : Nat), (0 : Nat), (1 : Nat), (0 : Nat), (1 : Nat), (0 : Nat)]), It.blk (2 : Nat), It.code (sub (bd Tryd.f13) [(1 : Nat), (1 : Nat), (1 : Nat), (0 : Nat), (1 : Nat), (0 : Nat), (0 : Nat), (1 : Nat), (1 : Nat), (0 : Nat), (0 : Nat), (1 : Nat), (1 : Nat)]), It.blk (1 : Nat), It.code (sub (bd Tryd.f13) [(1 : Nat), (1 : Nat), (1 : Nat), (0 : Nat), (1 : Nat), (0 : Nat), (0 : Nat), (1 : Nat), (1 : Nat), (1 : Nat)]), It.code (sub (bd Tryd.f13) [(1 : Nat), (1 : Nat), (1 : Nat), (0 : Nat), (1 : Nat), (0 : Nat)]), It.blk (0 : Nat), It.code (sub (bd Tryd.f13) [(1 : Nat), (1 : Nat), (1 : Nat), (1 : Nat)])] { fr := [T.und, T.sl (15 : Nat) L, T.sl (1 : Nat) O, T.und, T.und, T.und, T.und, T.ptr (4 : Nat) b7 (0 : Nat), T.und, T.v (Value.int IntKind.i64 (↑i : Int)), T.und, T.und, T.und, T.und, T.und, T.und, T.und, T.und, T.und, T.und, T.und, T.und, T.und, T.und, T.und, T.und, T.sl (1 : Nat) O, T.v (Value.int IntKind.i64 (↑m : Int)), T.v (Value.int IntKind.i64 (↑p : Int)), T.und, T.und, T.und, T.und, T.und, T.und, T.sl (1 : Nat) (List.drop (Int.toNat (↑(0 : Nat) : Int)) (List.take (Int.toNat (Prod.snd (IntKind.i64, (↑p : Int)))) O)), T.v (Value.int IntKind.i64 (↑(List.length (List.drop (Int.toNat (↑(0 : Nat) : Int)) (List.take (Int.toNat (Prod.snd (IntKind.i64, (↑p : Int)))) O))) : Int)), T.v (Value.int IntKind.i64 (0 : Int)), T.und, T.und, T.und, T.und, T.und, T.und, T.und, T.und, T.und, T.und, T.und, T.und, T.und, T.und, T.und, T.und, T.und, T.und, T.und, T.und, T.und, T.und, T.und, T.und, T.und, T.und], ob := [((0 : Nat), Ob.whole TC (Gs.t1 g) (Gs.f1 g)), ((1 : Nat), Ob.whole #[Value.iface (Gs.tp g) (Gs.p g)] (Gs.t2 g) (Gs.f2 g)), ((2 : Nat), Ob.whole #[Value.iface (Gs.tq g) (Gs.q g)] (Gs.t3 g) (Gs.f3 g)), (b3, Ob.cells [T.v (Value.bool (Val.h v0)), T.v (Value.string (ByteArray.mk (List.toArray (Val.t v0))))]), (b7, Ob.cells [T.v (Value.bool (Val.h w)), T.v (Value.string (ByteArray.mk (List.toArray (Val.t w))))])], gl := fun x => none }) (Q (T.v (Value.bool true)) [((0 : Nat), Ob.whole TC (Gs.t1 g) (Gs.f1 g)), ((1 : Nat), Ob.whole #[Value.iface (Gs.tp g) (Gs.p g)] (Gs.t2 g) (Gs.f2 g)), ((2 : Nat), Ob.whole #[Value.iface (Gs.tq g) (Gs.q g)] (Gs.t3 g) (Gs.f3 g))] fun x => none)) (by kernel_rfl) ?_
    repeat' (first | exact rfl | exact Nat.le_of_ble_eq_true rfl | refine And.intro ?_ ?_ | intro _ | refine bsplit_mk (fun _ => ?_) (fun _ => ?_))
    all_goals first
      | exact hat
      | exact inn
      | exact Int.natCast_nonneg _
      | (exfalso; rename_i h; rw [hltz] at h; cases h; done)
      | omega
      | trace_state
theorem jright_any (hn : l.length ≤ 1000000) (hl : q.length ≤ 1000000) (hio : ∀ x ∈ l, In64 x.op.n) (hv : v0.t.length ≤ 100) (hQ : ∀ c : Bool, (c = true ↔ Jdg.Right l v0 [] q) → Q (bool c) (obsG g) none_) : TCalls Tryd.prog 13 [.agg (vC v0), .sl 15 (Row.aggs enC l), .sl 1 (ints q)] (obsG g) none_ Q := by
  have hr := Jdg.right_iff l q v0 []
  obtain ⟨ca, hca⟩ : ∃ c : Bool, (c = true ↔ Apart l.length [] q) := by
    by_cases hf : Apart l.length [] q
    · exact ⟨true, fun _ => hf, fun _ => rfl⟩
    · exact ⟨false, fun h => (by cases h), fun h => absurd h hf⟩
  obtain ⟨cw, hcw⟩ : ∃ c : Bool, (c = true ↔ Whole l [] q) := by
    by_cases hf : Whole l [] q
    · exact ⟨true, fun _ => hf, fun _ => rfl⟩
    · exact ⟨false, fun h => (by cases h), fun h => absurd h hf⟩
  have c1 : TCalls Tryd.prog 19 [.sl 1 (ints q), int l.length] [] none_ (callPost (told (bool ca) [] [])) := apart_any q l.length _ hn hl (fun c hc => told_post (by
    have : c = ca := by rw [Bool.eq_iff_iff]; exact hc.trans hca.symm
    rw [this]))
  have c2 : TCalls Tryd.prog 20 [.sl 15 (Row.aggs enC l), .sl 1 (ints q)] [] none_ (callPost (told (bool cw) [] [])) := whole_any l q _ hn hl (fun c hc => told_post (by
    have : c = cw := by rw [Bool.eq_iff_iff]; exact hc.trans hcw.symm
    rw [this]))
  have lp := fun (Γ : Ctx) (b3 b7 : Nat) (h1 : ca = true) (h2 : cw = true) => jr_loop Γ g b3 b7 l q v0 Q hn hl hio (by
    have ha := hca.1 h1
    have : ∀ (r : List Int) (pre : List Int), Apart l.length pre r → ∀ k ∈ r, ∃ i : Nat, k = i ∧ i < l.length := by
      intro r
      induction r with
      | nil => intro pre _ k hk; cases hk
      | cons z r ih =>
        intro pre h k hk
        rcases List.mem_cons.1 hk with rfl | hk
        · exact h.1
        · exact ih _ h.2.2 k hk
    exact this q [] ha) q [] v0 rfl hv (fun c hc => hQ c (hc.trans ⟨fun e => hr.2 ⟨hca.1 h1, hcw.1 h2, e⟩, fun e => (hr.1 e).2.2⟩))
  have n1 : ca = false → Q (bool false) (obsG g) none_ := fun h => hQ false ⟨fun e => (by cases e), fun e => by rw [hca.2 (hr.1 e).1] at h; cases h⟩
  have n2 : cw = false → Q (bool false) (obsG g) none_ := fun h => hQ false ⟨fun e => (by cases e), fun e => by rw [hcw.2 (hr.1 e).2.1] at h; cases h⟩
  have hal : (Row.aggs enC l).length = l.length := Row.aggs_len l
  have hoq := ints_len q
  clear hQ hr hca hcw hio
  rw [← hal] at c1
  simp only [← hoq] at lp
  unfold vC obsG at *
  generalize tabC = TC at *
  generalize ints q = O at *
  generalize Row.aggs enC l = L at *
  refine TCalls.of Tryd.func13 rfl (CanCall.of Tryd.func13 rfl (by decide)) [0, 1, 2] fun Γ => ?_
  refine run_sound (⟨fun | 1, 3 => told (bool ca) [] [] | 1, 8 => told (bool cw) [] [] | _, _ => .no, [((2, 5), ([1, 2, 7, 26, 27, 28], 5))], fun | 10 => some ⟨[], [8], .take true [0,1,2,3,4,5,6,7] (.one 8 .done)⟩ | 13 => some ⟨[], [5, 10], .take true [0,1,2,3,4] (.two 5 9 (.take false [6,7,8] (.one 9 (.one 10 (.take false [11] .done)))) (.one 5 (.take false [6,7,8] (.one 10 (.take false [11] .done)))))⟩ | _ => none⟩) 400 (B := ∀ (b : Nat), TCalls Tryd.prog (19 : Nat) [T.sl (1 : Nat) O, T.v (Value.int IntKind.i64 (↑(List.length L) : Int))] [] (fun x => none) (callPost (Hint.call false Unit (fun x => True) [] false (fun x => bool ca) (fun x => []) fun x => none_)) ∧ ∀ (a : Unit), True → bsplit (!ca) (Q (T.v (Value.bool false)) [((0 : Nat), Ob.whole TC (Gs.t1 g) (Gs.f1 g)), ((1 : Nat), Ob.whole #[Value.iface (Gs.tp g) (Gs.p g)] (Gs.t2 g) (Gs.f2 g)), ((2 : Nat), Ob.whole #[Value.iface (Gs.tq g) (Gs.q g)] (Gs.t3 g) (Gs.f3 g))] fun x => none) (TCalls Tryd.prog (20 : Nat) [T.sl (15 : Nat) L, T.sl (1 : Nat) O] [] (fun x => none) (callPost (Hint.call false Unit (fun x => True) [] false (fun x => bool cw) (fun x => []) fun x => none_)) ∧ ∀ (a : Unit), True → bsplit (!cw) (Q (T.v (Value.bool false)) [((0 : Nat), Ob.whole TC (Gs.t1 g) (Gs.f1 g)), ((1 : Nat), Ob.whole #[Value.iface (Gs.tp g) (Gs.p g)] (Gs.t2 g) (Gs.f2 g)), ((2 : Nat), Ob.whole #[Value.iface (Gs.tq g) (Gs.q g)] (Gs.t3 g) (Gs.f3 g))] fun x => none) (b = b ∧ ∀ (b_1 : Nat), ((2 : Nat) = nat_lit 2 ∧ List.all [T.v (Value.bool (Val.h v0)), T.v (Value.string (ByteArray.mk (List.toArray (Val.t v0))))] T.one = true) ∧ b_1 = b_1 ∧ (0 : Nat) + nat_lit 2 ≤ (2 : Nat) ∧ TWk Tryd.prog Γ (fin Tryd.prog Tryd.f13 [(0 : Nat), (1 : Nat), (2 : Nat)] Q) [It.code (sub (bd Tryd.f13) [(1 : Nat), (1 : Nat), (1 : Nat), (0 : Nat), (1 : Nat), (0 : Nat)]), It.blk (0 : Nat), It.code (sub (bd Tryd.f13) [(1 : Nat), (1 : Nat), (1 : Nat), (1 : Nat)])] { fr := [T.und, T.sl (15 : Nat) L, T.sl (1 : Nat) O, T.und, T.und, T.und, T.und, T.ptr (4 : Nat) b_1 (0 : Nat), T.und, T.und, T.und, T.und, T.und, T.und, T.und, T.und, T.und, T.und, T.und, T.und, T.und, T.und, T.und, T.und, T.und, T.und, T.sl (1 : Nat) O, T.v (Value.int IntKind.i64 (↑(List.length O) : Int)), T.v (Value.int IntKind.i64 (0 : Int)), T.und, T.und, T.und, T.und, T.und, T.und, T.und, T.und, T.und, T.und, T.und, T.und, T.und, T.und, T.und, T.und, T.und, T.und, T.und, T.und, T.und, T.und, T.und, T.und, T.und, T.und, T.und, T.und, T.und, T.und, T.und, T.und, T.und, T.und, T.und], ob := [((0 : Nat), Ob.whole TC (Gs.t1 g) (Gs.f1 g)), ((1 : Nat), Ob.whole #[Value.iface (Gs.tp g) (Gs.p g)] (Gs.t2 g) (Gs.f2 g)), ((2 : Nat), Ob.whole #[Value.iface (Gs.tq g) (Gs.q g)] (Gs.t3 g) (Gs.f3 g)), (b, Ob.cells [T.v (Value.bool (Val.h v0)), T.v (Value.string (ByteArray.mk (List.toArray (Val.t v0))))]), (b_1, Ob.cells [T.v (Value.bool (Val.h v0)), T.v (Value.string (ByteArray.mk (List.toArray (Val.t v0))))])], gl := fun x => none }))) (by kernel_rfl) ?_
  repeat' (first | exact rfl | exact Nat.le_of_ble_eq_true rfl | refine And.intro ?_ ?_ | intro _ | refine bsplit_mk (fun _ => ?_) (fun _ => ?_))
  all_goals first
    | exact c1
    | exact c2
    | exact n1 (by simpa using ‹(!ca) = true›)
    | exact n2 (by simpa using ‹(!cw) = true›)
    | exact lp Γ _ _ (by simpa using ‹(!ca) = false›) (by simpa using ‹(!cw) = false›)
    | trace_state
end
end X27
end Go.Proofs.YtfealopjdkilfaaDoor.Vm
