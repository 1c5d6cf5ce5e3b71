/- Views by the engine: the document's At and Ready. -/
import Derived.Test.YtidhblpcaccchaaVE
namespace Go.Proofs.Ytidhblpcaccchaa.Vm
open Go Go.RowKit
set_option maxRecDepth 100000
namespace X5
open View (Mem VS atN atI ready)
theorem rat_loop (Γ : Ctx) (b : Nat) (v : VS) (x : Nat) (hl : lim v.ms) (Q : T → Obs → Glb → Prop) (hQ : ∀ r, r = int (atI v.ms x) → Q r [] none_) : ∀ (r d : List Mem) (k : Int), v.ms = d ++ r → k = d.length → (∀ m ∈ d, m.node ≠ x) →
    TWk Try.prog Γ (fin Try.prog Try.f81 [] Q) [.code (sub (bd Try.f81) [1, 0, 1, 0]), .blk 0, .code (sub (bd Try.f81) [1, 1])] ⟨frame 22 [(1, u8 x), (2, .ptr 0 b 0), (5, int k)], [(b, .cells (viewC v))], none_⟩ := by
  intro r
  induction r with
  | nil =>
    intro d k hd hk hno
    refine run_sound (⟨fun | 4, 3 => .res (.agg (memC ⟨0, 0, false⟩)) | _, _ => .no, [((2, 2), ([1, 2, 5], 1))], fun  | _ => none⟩) 400 (B := b = b ∧ bsplit (decide (k < (↑(List.length (mems (VS.ms v))) : Int))) (b = b ∧ (0 : Int) ≤ k ∧ (mems (VS.ms v))[Int.toNat k]? = some (T.agg [T.v (Value.int IntKind.u8 (↑(Mem.node { node := (0 : Nat), life := (0 : Nat), ready := false }) : Int)), T.v (Value.int IntKind.u8 (↑(Mem.life { node := (0 : Nat), life := (0 : Nat), ready := false }) : Int)), T.v (Value.bool false)]) ∧ bsplit ((↑(Mem.node { node := (0 : Nat), life := (0 : Nat), ready := false }) : Int) == (↑x : Int)) (Q (T.v (Value.int IntKind.i64 k)) [] fun x => none) (TWk Try.prog Γ (fin Try.prog Try.f81 [] Q) [It.code (sub (bd Try.f81) [(1 : Nat), (0 : Nat), (1 : Nat), (0 : Nat)]), It.blk (0 : Nat), It.code (sub (bd Try.f81) [(1 : Nat), (1 : Nat)])] { fr := [T.und, T.v (Value.int IntKind.u8 (↑x : Int)), T.ptr (0 : Nat) b (0 : Nat), T.und, T.und, T.v (Value.int IntKind.i64 (IntKind.wrap IntKind.i64 (k + (1 : Int)))), T.und, T.und, T.und, T.und, T.und, T.und, T.und, T.und, T.und, T.und, T.und, T.und, T.und, T.und, T.und, T.und], ob := [(b, Ob.cells [T.v (Value.int IntKind.u32 (VS.e v)), T.sl (3 : Nat) (mems (VS.ms v)), T.v (Value.int IntKind.u8 (↑(VS.L v (0 : Nat)) : Int)), T.v (Value.int IntKind.u8 (↑(VS.L v (1 : Nat)) : Int)), T.v (Value.int IntKind.u8 (↑(VS.L v (2 : Nat)) : Int)), T.v (Value.int IntKind.u8 (↑(VS.L v (3 : Nat)) : Int)), T.v (Value.int IntKind.u8 (↑(VS.L v (4 : Nat)) : Int)), T.v (Value.int IntKind.u8 (↑(VS.L v (5 : Nat)) : Int)), T.v (Value.int IntKind.u8 (↑(VS.L v (6 : Nat)) : Int)), T.v (Value.int IntKind.u8 (↑(VS.L v (7 : Nat)) : Int))])], gl := fun x => none })) (Q (T.v (Value.int IntKind.i64 (-1 : Int))) [] fun x => none)) (by kernel_rfl) ?_
    have e : d = v.ms := by simpa using hd.symm
    refine ⟨rfl, bsplit_mk (fun h => by simp [hd, hk, mems] at h) (fun _ => hQ _ ?_)⟩
    rw [View.atI_none (fun k hk e => hno v.ms[k] (by rw [show d = v.ms by simpa using hd.symm]; simp) e)]; rfl
  | cons m r ih =>
    intro d k hd hk hno
    refine run_sound (⟨fun | 4, 3 => .res (.agg (memC m)) | _, _ => .no, [((2, 2), ([1, 2, 5], 1))], fun  | _ => none⟩) 400 (B := b = b ∧ bsplit (decide (k < (↑(List.length (mems (VS.ms v))) : Int))) (b = b ∧ (0 : Int) ≤ k ∧ (mems (VS.ms v))[Int.toNat k]? = some (T.agg [T.v (Value.int IntKind.u8 (↑(Mem.node m) : Int)), T.v (Value.int IntKind.u8 (↑(Mem.life m) : Int)), T.v (Value.bool (Mem.ready m))]) ∧ bsplit ((↑(Mem.node m) : Int) == (↑x : Int)) (Q (T.v (Value.int IntKind.i64 k)) [] fun x => none) (TWk Try.prog Γ (fin Try.prog Try.f81 [] Q) [It.code (sub (bd Try.f81) [(1 : Nat), (0 : Nat), (1 : Nat), (0 : Nat)]), It.blk (0 : Nat), It.code (sub (bd Try.f81) [(1 : Nat), (1 : Nat)])] { fr := [T.und, T.v (Value.int IntKind.u8 (↑x : Int)), T.ptr (0 : Nat) b (0 : Nat), T.und, T.und, T.v (Value.int IntKind.i64 (IntKind.wrap IntKind.i64 (k + (1 : Int)))), T.und, T.und, T.und, T.und, T.und, T.und, T.und, T.und, T.und, T.und, T.und, T.und, T.und, T.und, T.und, T.und], ob := [(b, Ob.cells [T.v (Value.int IntKind.u32 (VS.e v)), T.sl (3 : Nat) (mems (VS.ms v)), T.v (Value.int IntKind.u8 (↑(VS.L v (0 : Nat)) : Int)), T.v (Value.int IntKind.u8 (↑(VS.L v (1 : Nat)) : Int)), T.v (Value.int IntKind.u8 (↑(VS.L v (2 : Nat)) : Int)), T.v (Value.int IntKind.u8 (↑(VS.L v (3 : Nat)) : Int)), T.v (Value.int IntKind.u8 (↑(VS.L v (4 : Nat)) : Int)), T.v (Value.int IntKind.u8 (↑(VS.L v (5 : Nat)) : Int)), T.v (Value.int IntKind.u8 (↑(VS.L v (6 : Nat)) : Int)), T.v (Value.int IntKind.u8 (↑(VS.L v (7 : Nat)) : Int))])], gl := fun x => none })) (Q (T.v (Value.int IntKind.i64 (-1 : Int))) [] fun x => none)) (by kernel_rfl) ?_
    have hl' : d.length < 1000000 := by have := hl; rw [lim, hd, List.length_append, List.length_cons] at this; omega
    rw [show IntKind.wrap .i64 (k + 1) = k + 1 from wrap_i64 (by omega) (by omega)]
    refine ⟨rfl, bsplit_mk (fun _ => ⟨rfl, by omega, by simp [hd, hk, mems]; rfl, bsplit_mk (fun h => hQ _ ?_) (fun h => ?_)⟩) (fun h => by simp [hd, hk, mems] at h; omega)⟩
    · have hx : m.node = x := by simp at h; omega
      have hkl : d.length < v.ms.length := by rw [hd]; simp
      have hget : ∀ j (hj : j < v.ms.length), v.ms[j]? = (d ++ m :: r)[j]? := fun j _ => by rw [hd]
      rw [View.atI_of (k := d.length) hkl (by
        have := hget d.length hkl
        rw [List.getElem?_eq_getElem hkl] at this; simp at this; rw [this]; exact hx) (fun j hj => by
        have hjl : j < v.ms.length := by omega
        have := hget j hjl
        rw [List.getElem?_eq_getElem hjl, List.getElem?_append_left hj, List.getElem?_eq_getElem hj] at this
        injection this with this
        rw [this]; exact hno _ (by simp)), hk]; rfl
    · exact ih (d ++ [m]) (k + 1) (by simp [hd]) (by simp [hk]) (fun m' hm' => by
        rcases List.mem_append.1 hm' with h1 | h1
        · exact hno m' h1
        · simp at h1; subst h1; simp at h; omega)
theorem rat_any (v : VS) (x : Nat) (hl : lim v.ms) (Q : T → Obs → Glb → Prop) (hQ : ∀ r, r = int (atI v.ms x) → Q r [] none_) : TCalls Try.prog 81 [.agg (viewC v), u8 x] [] none_ Q := by
  refine TCalls.of Try.func81 rfl (CanCall.of Try.func81 rfl (by decide)) [] fun Γ => ?_
  refine run_sound (⟨fun _ _ => .no, [((2, 2), ([1, 2, 5], 1))], fun _ => none⟩) 400 (B := ∀ (b : Nat), TWk Try.prog Γ (fin Try.prog Try.f81 [] Q) [It.code (sub (bd Try.f81) [(1 : Nat), (0 : Nat), (1 : Nat), (0 : Nat)]), It.blk (0 : Nat), It.code (sub (bd Try.f81) [(1 : Nat), (1 : Nat)])] { fr := [T.und, T.v (Value.int IntKind.u8 (↑x : Int)), T.ptr (0 : Nat) b (0 : Nat), T.und, T.und, T.v (Value.int IntKind.i64 (0 : Int)), T.und, T.und, T.und, T.und, T.und, T.und, T.und, T.und, T.und, T.und, T.und, T.und, T.und, T.und, T.und, T.und], ob := [(b, Ob.cells [T.v (Value.int IntKind.u32 (VS.e v)), T.sl (3 : Nat) (mems (VS.ms v)), T.v (Value.int IntKind.u8 (↑(VS.L v (0 : Nat)) : Int)), T.v (Value.int IntKind.u8 (↑(VS.L v (1 : Nat)) : Int)), T.v (Value.int IntKind.u8 (↑(VS.L v (2 : Nat)) : Int)), T.v (Value.int IntKind.u8 (↑(VS.L v (3 : Nat)) : Int)), T.v (Value.int IntKind.u8 (↑(VS.L v (4 : Nat)) : Int)), T.v (Value.int IntKind.u8 (↑(VS.L v (5 : Nat)) : Int)), T.v (Value.int IntKind.u8 (↑(VS.L v (6 : Nat)) : Int)), T.v (Value.int IntKind.u8 (↑(VS.L v (7 : Nat)) : Int))])], gl := fun x => none }) (by kernel_rfl) ?_
  exact fun b => rat_loop Γ b v x hl Q hQ v.ms [] 0 rfl rfl (by simp)
def readyX (l : List Mem) (but : Int) : Nat := (l.zipIdx.filter fun p => p.1.ready && ((p.2 : Int) != but)).length
theorem readyX_snoc (d : List Mem) (m : Mem) (but : Int) : readyX (d ++ [m]) but = readyX d but + if m.ready && ((d.length : Int) != but) then 1 else 0 := by
  rw [readyX, List.zipIdx_append, List.filter_append, List.length_append]
  cases h : (m.ready && ((d.length : Int) != but)) <;> simp [readyX, h]
theorem readyX_le (d : List Mem) (but : Int) : readyX d but ≤ d.length := by
  have := List.length_filter_le (fun p : Mem × Nat => p.1.ready && ((p.2 : Int) != but)) d.zipIdx
  rw [List.length_zipIdx] at this; exact this
theorem rready_loop (Γ : Ctx) (b : Nat) (v : VS) (but : Int) (hl : lim v.ms) (Q : T → Obs → Glb → Prop) (hQ : ∀ r, r = int (readyX v.ms but) → Q r [] none_) : ∀ (r d : List Mem) (k : Int), v.ms = d ++ r → k = d.length →
    TWk Try.prog Γ (fin Try.prog Try.f82 [] Q) [.code (sub (bd Try.f82) [1, 1, 0, 1, 0]), .blk 0, .code (sub (bd Try.f82) [1, 1, 1])] ⟨frame 28 [(1, int but), (2, .ptr 0 b 0), (5, int (readyX d but)), (6, int k)], [(b, .cells (viewC v))], none_⟩ := by
  intro r
  induction r with
  | nil =>
    intro d k hd hk
    refine run_sound (⟨fun | 5, 3 => .res (.agg (memC ⟨0, 0, false⟩)) | _, _ => .no, [((2, 3), ([1, 2, 5, 6], 1))], fun  | _ => none⟩) 400 (B := b = b ∧ bsplit (decide (k < (↑(List.length (mems (VS.ms v))) : Int))) (b = b ∧ (0 : Int) ≤ k ∧ (mems (VS.ms v))[Int.toNat k]? = some (T.agg [T.v (Value.int IntKind.u8 (↑(Mem.node { node := (0 : Nat), life := (0 : Nat), ready := false }) : Int)), T.v (Value.int IntKind.u8 (↑(Mem.life { node := (0 : Nat), life := (0 : Nat), ready := false }) : Int)), T.v (Value.bool false)]) ∧ TWk Try.prog Γ (fin Try.prog Try.f82 [] Q) [It.code (sub (bd Try.f82) [(1 : Nat), (1 : Nat), (0 : Nat), (1 : Nat), (0 : Nat)]), It.blk (0 : Nat), It.code (sub (bd Try.f82) [(1 : Nat), (1 : Nat), (1 : Nat)])] { fr := [T.und, T.v (Value.int IntKind.i64 but), T.ptr (0 : Nat) b (0 : Nat), T.und, T.und, T.v (Value.int IntKind.i64 (↑(readyX d but) : Int)), T.v (Value.int IntKind.i64 (IntKind.wrap IntKind.i64 (k + (1 : Int)))), T.und, T.und, T.und, T.und, T.und, T.und, T.und, T.und, T.und, T.und, T.und, T.und, T.und, T.und, T.und, T.und, T.und, T.und, T.und, T.und, T.und], ob := [(b, Ob.cells [T.v (Value.int IntKind.u32 (VS.e v)), T.sl (3 : Nat) (mems (VS.ms v)), T.v (Value.int IntKind.u8 (↑(VS.L v (0 : Nat)) : Int)), T.v (Value.int IntKind.u8 (↑(VS.L v (1 : Nat)) : Int)), T.v (Value.int IntKind.u8 (↑(VS.L v (2 : Nat)) : Int)), T.v (Value.int IntKind.u8 (↑(VS.L v (3 : Nat)) : Int)), T.v (Value.int IntKind.u8 (↑(VS.L v (4 : Nat)) : Int)), T.v (Value.int IntKind.u8 (↑(VS.L v (5 : Nat)) : Int)), T.v (Value.int IntKind.u8 (↑(VS.L v (6 : Nat)) : Int)), T.v (Value.int IntKind.u8 (↑(VS.L v (7 : Nat)) : Int))])], gl := fun x => none }) (Q (T.v (Value.int IntKind.i64 (↑(readyX d but) : Int))) [] fun x => none)) (by kernel_rfl) ?_
    have e : d = v.ms := by simpa using hd.symm
    subst e
    refine ⟨rfl, bsplit_mk (fun h => by simp [hk, mems] at h) (fun _ => hQ _ rfl)⟩
  | cons m r ih =>
    intro d k hd hk
    refine run_sound (⟨fun | 5, 3 => .res (.agg (memC m)) | _, _ => .no, [((2, 3), ([1, 2, 5, 6], 1))], fun  | _ => none⟩) 400 (B := b = b ∧ bsplit (decide (k < (↑(List.length (mems (VS.ms v))) : Int))) (b = b ∧ (0 : Int) ≤ k ∧ (mems (VS.ms v))[Int.toNat k]? = some (T.agg [u8 (Mem.node m), u8 (Mem.life m), bool (Mem.ready m)]) ∧ bsplit (Mem.ready m) (bsplit (k != but) (TWk Try.prog Γ (fin Try.prog Try.f82 [] Q) [It.code (sub (bd Try.f82) [1, 1, 0, 1, 0]), It.blk 0, It.code (sub (bd Try.f82) [1, 1, 1])] { fr := frame 28 [(1, int but), (2, T.ptr 0 b 0), (5, int (IntKind.wrap IntKind.i64 ((↑(readyX d but) : Int) + (1 : Int)))), (6, int (IntKind.wrap IntKind.i64 (k + (1 : Int))))], ob := [(b, Ob.cells [u32 (VS.e v), T.sl 3 (mems (VS.ms v)), u8 (VS.L v 0), u8 (VS.L v 1), u8 (VS.L v 2), u8 (VS.L v 3), u8 (VS.L v 4), u8 (VS.L v 5), u8 (VS.L v 6), u8 (VS.L v 7)])], gl := fun x => none }) (TWk Try.prog Γ (fin Try.prog Try.f82 [] Q) [It.code (sub (bd Try.f82) [1, 1, 0, 1, 0]), It.blk 0, It.code (sub (bd Try.f82) [1, 1, 1])] { fr := frame 28 [(1, int but), (2, T.ptr 0 b 0), (5, int (readyX d but)), (6, int (IntKind.wrap IntKind.i64 (k + (1 : Int))))], ob := [(b, Ob.cells [u32 (VS.e v), T.sl 3 (mems (VS.ms v)), u8 (VS.L v 0), u8 (VS.L v 1), u8 (VS.L v 2), u8 (VS.L v 3), u8 (VS.L v 4), u8 (VS.L v 5), u8 (VS.L v 6), u8 (VS.L v 7)])], gl := fun x => none })) (TWk Try.prog Γ (fin Try.prog Try.f82 [] Q) [It.code (sub (bd Try.f82) [1, 1, 0, 1, 0]), It.blk 0, It.code (sub (bd Try.f82) [1, 1, 1])] { fr := frame 28 [(1, int but), (2, T.ptr 0 b 0), (5, int (readyX d but)), (6, int (IntKind.wrap IntKind.i64 (k + (1 : Int))))], ob := [(b, Ob.cells [u32 (VS.e v), T.sl 3 (mems (VS.ms v)), u8 (VS.L v 0), u8 (VS.L v 1), u8 (VS.L v 2), u8 (VS.L v 3), u8 (VS.L v 4), u8 (VS.L v 5), u8 (VS.L v 6), u8 (VS.L v 7)])], gl := fun x => none })) (Q (int (readyX d but)) [] fun x => none)) (by kernel_rfl) ?_
    have hl' : d.length < 1000000 := by have := hl; rw [lim, hd, List.length_append, List.length_cons] at this; omega
    have hrd := readyX_le d but
    rw [show IntKind.wrap .i64 (k + 1) = k + 1 from wrap_i64 (by omega) (by omega), show IntKind.wrap .i64 ((readyX d but : Int) + 1) = (readyX d but : Int) + 1 from wrap_i64 (by omega) (by omega)]
    have nx := ih (d ++ [m]) (k + 1) (by simp [hd]) (by simp [hk])
    rw [readyX_snoc, ← hk] at nx
    refine ⟨rfl, bsplit_mk (fun _ => ⟨rfl, by omega, by simp [hd, hk, mems]; rfl, bsplit_mk (fun h => bsplit_mk (fun h2 => ?_) (fun h2 => ?_)) (fun h => ?_)⟩) (fun h => by simp [hd, hk, mems] at h; omega)⟩
    · rw [if_pos (by rw [h, h2]; rfl)] at nx; exact nx
    · rw [if_neg (by rw [h, h2]; simp)] at nx; exact nx
    · rw [if_neg (by rw [h]; simp)] at nx; exact nx
theorem rready_any (v : VS) (but : Int) (hl : lim v.ms) (Q : T → Obs → Glb → Prop) (hQ : ∀ r, r = int (readyX v.ms but) → Q r [] none_) : TCalls Try.prog 82 [.agg (viewC v), int but] [] none_ Q := by
  refine TCalls.of Try.func82 rfl (CanCall.of Try.func82 rfl (by decide)) [] fun Γ => ?_
  refine run_sound (⟨fun _ _ => .no, [((2, 3), ([1, 2, 5, 6], 1))], fun _ => none⟩) 400 (B := ∀ (b : Nat), TWk Try.prog Γ (fin Try.prog Try.f82 [] Q) [It.code (sub (bd Try.f82) [(1 : Nat), (1 : Nat), (0 : Nat), (1 : Nat), (0 : Nat)]), It.blk (0 : Nat), It.code (sub (bd Try.f82) [(1 : Nat), (1 : Nat), (1 : Nat)])] { fr := [T.und, T.v (Value.int IntKind.i64 but), T.ptr (0 : Nat) b (0 : Nat), T.und, T.und, T.v (Value.int IntKind.i64 (0 : Int)), T.v (Value.int IntKind.i64 (0 : Int)), T.und, T.und, T.und, T.und, T.und, T.und, T.und, T.und, T.und, T.und, T.und, T.und, T.und, T.und, T.und, T.und, T.und, T.und, T.und, T.und, T.und], ob := [(b, Ob.cells [T.v (Value.int IntKind.u32 (VS.e v)), T.sl (3 : Nat) (mems (VS.ms v)), T.v (Value.int IntKind.u8 (↑(VS.L v (0 : Nat)) : Int)), T.v (Value.int IntKind.u8 (↑(VS.L v (1 : Nat)) : Int)), T.v (Value.int IntKind.u8 (↑(VS.L v (2 : Nat)) : Int)), T.v (Value.int IntKind.u8 (↑(VS.L v (3 : Nat)) : Int)), T.v (Value.int IntKind.u8 (↑(VS.L v (4 : Nat)) : Int)), T.v (Value.int IntKind.u8 (↑(VS.L v (5 : Nat)) : Int)), T.v (Value.int IntKind.u8 (↑(VS.L v (6 : Nat)) : Int)), T.v (Value.int IntKind.u8 (↑(VS.L v (7 : Nat)) : Int))])], gl := fun x => none }) (by kernel_rfl) ?_
  exact fun b => rready_loop Γ b v but hl Q hQ v.ms [] 0 rfl rfl
theorem readyX_app (but : Int) : ∀ (r d : List Mem), (∀ j : Nat, d.length ≤ j → j < d.length + r.length → (j : Int) ≠ but) → readyX (d ++ r) but = readyX d but + ready r := by
  intro r
  induction r with
  | nil => intro d _; simp [ready]
  | cons m r ih =>
    intro d h
    have := ih (d ++ [m]) (fun j h1 h2 => h j (by rw [List.length_append] at h1; omega) (by simp at h2 ⊢; omega))
    rw [List.append_assoc, List.singleton_append] at this
    have h0 : ((d.length : Int) != but) = true := by
      have := h d.length (Nat.le_refl _) (by simp)
      simpa using this
    rw [this, readyX_snoc, h0, Bool.and_true]
    cases hm : m.ready
    · simp [ready, List.filter_cons, hm]
    · simp [ready, List.filter_cons, hm]; omega
theorem readyX_none (l : List Mem) (but : Int) (h : but < 0) : readyX l but = ready l := by
  have := readyX_app but l [] (fun j _ _ => by omega)
  simpa [readyX] using this
theorem readyX_one (l : List Mem) (i : Nat) (h : i < l.length) : readyX l i = ready (l.eraseIdx i) := by
  have hl : l = (l.take i ++ [l[i]]) ++ l.drop (i + 1) := by rw [List.append_assoc, List.singleton_append, ← List.drop_eq_getElem_cons h, List.take_append_drop]
  have ht : (l.take i).length = i := by rw [List.length_take]; omega
  have e1 : readyX (l.take i) i = ready (l.take i) := by
    have := readyX_app (i : Int) (l.take i) [] (fun j _ h2 => by rw [ht] at h2; simp at h2; omega)
    simpa [readyX] using this
  have e2 : readyX l i = ready (l.take i) + ready (l.drop (i + 1)) := by
    rw [show readyX l i = readyX ((l.take i ++ [l[i]]) ++ l.drop (i + 1)) i by rw [← hl], readyX_app _ _ _ (fun j h1 _ => by simp [ht] at h1; omega), readyX_snoc, ht, e1]
    simp
  rw [e2, List.eraseIdx_eq_take_drop_succ, ready, ready, ready, List.filter_append, List.length_append]
theorem rReady_any (v : VS) (hl : lim v.ms) (Q : T → Obs → Glb → Prop) (hQ : ∀ r, r = int (ready v.ms) → Q r [] none_) : TCalls Try.prog 80 [.agg (viewC v)] [] none_ Q := by
  refine TCalls.of Try.func80 rfl (CanCall.of Try.func80 rfl (by decide)) [] fun Γ => ?_
  refine run_sound (⟨fun | 1, 1 => told (int (ready v.ms)) [] [] | _, _ => .no, [], fun  | _ => none⟩) 400 (B := ∀ (b : Nat), b = b ∧ TCalls Try.prog (82 : Nat) [T.agg [T.v (Value.int IntKind.u32 (VS.e v)), T.sl (3 : Nat) (mems (VS.ms v)), T.v (Value.int IntKind.u8 (↑(VS.L v (0 : Nat)) : Int)), T.v (Value.int IntKind.u8 (↑(VS.L v (1 : Nat)) : Int)), T.v (Value.int IntKind.u8 (↑(VS.L v (2 : Nat)) : Int)), T.v (Value.int IntKind.u8 (↑(VS.L v (3 : Nat)) : Int)), T.v (Value.int IntKind.u8 (↑(VS.L v (4 : Nat)) : Int)), T.v (Value.int IntKind.u8 (↑(VS.L v (5 : Nat)) : Int)), T.v (Value.int IntKind.u8 (↑(VS.L v (6 : Nat)) : Int)), T.v (Value.int IntKind.u8 (↑(VS.L v (7 : Nat)) : Int))], T.v (Value.int IntKind.i64 (-1 : Int))] [] (fun x => none) (callPost (Hint.call false Unit (fun x => True) [] false (fun x => int (↑(ready (VS.ms v)) : Int)) (fun x => []) fun x => none_)) ∧ ∀ (a : Unit), True → Q (T.v (Value.int IntKind.i64 (↑(ready (VS.ms v)) : Int))) [] fun x => none) (by kernel_rfl) ?_
  repeat' (first | exact rfl | exact Nat.le_of_ble_eq_true rfl | refine And.intro ?_ ?_ | intro _ | refine bsplit_mk (fun _ => ?_) (fun _ => ?_))
  · exact rready_any v (-1) hl _ (fun r h => told_post (h.trans (by rw [readyX_none _ _ (by omega)])))
  · exact hQ _ rfl
end X5
end Go.Proofs.Ytidhblpcaccchaa.Vm
