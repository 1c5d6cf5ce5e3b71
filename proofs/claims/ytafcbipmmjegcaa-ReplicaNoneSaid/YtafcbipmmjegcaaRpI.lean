/- Replicas by the engine: a frame comes. -/
import Derived.Test.YtafcbipmmjegcaaRpH
namespace Go.Proofs.Ytafcbipmmjegcaa.Vm
open Go Go.RowKit
set_option maxRecDepth 100000
namespace X20
open Rep (Stp Wrd Cel Drv Plc RS Fm Ev setP setC)
open X5 (viewC lim othV hasV aheadV behindV ends_any)
def idxI (l : List Nat) (p : Nat → Bool) : Int := match l.findIdx? p with
  | some i => i
  | none => -1
theorem idxI_none {l : List Nat} {p : Nat → Bool} (h : ∀ x ∈ l, p x = false) : idxI l p = -1 := by
  unfold idxI
  rw [List.findIdx?_eq_none_iff.2 h]
theorem idxI_at {l d r : List Nat} {x : Nat} {p : Nat → Bool} (hl : l = d ++ x :: r) (hd : ∀ y ∈ d, p y = false) (hx : p x = true) : idxI l p = d.length := by
  unfold idxI
  rw [show l.findIdx? p = some d.length by
    rw [hl, List.findIdx?_append, List.findIdx?_eq_none_iff.2 hd, List.findIdx?_cons, hx]; simp]
theorem find_idx (l : List Nat) (p : Nat → Bool) : (l.find? p = none ∧ idxI l p = -1) ∨ ∃ (i : Nat) (x : Nat), l.find? p = some x ∧ idxI l p = i ∧ l[i]? = some x := by
  unfold idxI
  cases h : l.findIdx? p with
  | none =>
    refine .inl ⟨?_, rfl⟩
    rw [List.find?_eq_none]
    intro x hx hp
    have := List.findIdx?_eq_none_iff.1 h x hx
    rw [this] at hp; cases hp
  | some i =>
    obtain ⟨hi, h1, h2⟩ := List.findIdx?_eq_some_iff_getElem.1 h
    refine .inr ⟨i, l[i], ?_, rfl, by simp [hi]⟩
    rw [List.find?_eq_some_iff_getElem]
    exact ⟨h1, i, hi, rfl, fun j hj => by simpa using h2 j hj⟩
theorem sn1_any (n : Nat) (b : Nat) (f : Fm) (Q : T → Obs → Glb → Prop) (hQ : Q (bool (Rep.ad n == f.frm)) [(b, .cells (frC f))] none_) : TCalls Try.prog 85 [u8 n, .ptr 0 b 0] [(b, .cells (frC f))] none_ Q := by
  have e : (Rep.ad n == f.frm) = (((Rep.ad n : Nat) : Int) == (f.frm : Int)) := by rw [Bool.eq_iff_iff]; simp only [beq_iff_eq]; omega
  rw [e] at hQ
  refine TCalls.of Try.func85 rfl (CanCall.of Try.func85 rfl (by decide)) [0] fun Γ => ?_
  refine run_sound (⟨fun _ _ => .no, [], fun _ => none⟩) 400 (B := b = b ∧ Q (bool (IntKind.wrap IntKind.u8 ((16 : Int) + (↑n : Int)) == (↑(Fm.frm f) : Int))) [(b, Ob.cells [u8 (Fm.kind f), u8 (Fm.frm f), u8 (Fm.to f), u32 (Fm.epoch f), u8 (Fm.key f), u32 (Stp.n (Wrd.s (Fm.w f))), u8 (Stp.b (Wrd.s (Fm.w f))), u8 (Stp.l (Wrd.s (Fm.w f))), bool (Wrd.h (Fm.w f)), T.v (Value.string (Wrd.t (Fm.w f))), bool (Wrd.r (Fm.w f)), bool (Fm.flag f), u8 (Fm.dir f), u8 (0 : Int), u32 (0 : Int), u32 (0 : Int), u8 (0 : Int), u32 (0 : Int), u8 (0 : Int), u8 (0 : Int), u8 (0 : Int), u32 (0 : Int), u32 (0 : Int), u32 (0 : Int), T.v (Value.slice none 0 0), u8 (0 : Int), u8 (0 : Int), u8 (0 : Int), u8 (0 : Int), u8 (0 : Int), u8 (0 : Int), u8 (0 : Int), u8 (0 : Int), T.v (Value.slice none 0 0)])] fun x => none) (by kernel_rfl) ?_
  rw [ad_w]
  repeat' (first | exact rfl | exact Nat.le_of_ble_eq_true rfl | refine And.intro ?_ ?_ | intro _ | refine bsplit_mk (fun _ => ?_) (fun _ => ?_))
  exact hQ
theorem idx_loop (Γ : Ctx) (b : Nat) (f : Fm) (l : List Nat) (hl : l.length ≤ 1000000) (Q : T → Obs → Glb → Prop) (hQ : Q (int (idxI l fun n => Rep.ad n == f.frm)) [(b, .cells (frC f))] none_) : ∀ (r d : List Nat) (k : Int), l = d ++ r → k = d.length → (∀ y ∈ d, (Rep.ad y == f.frm) = false) →
    TWk Try.prog Γ (fin Try.prog Try.f84 [0] Q) [.code (sub (bd Try.f84) [1, 0, 1, 0]), .blk 0, .code (sub (bd Try.f84) [1, 1])] ⟨frame 19 [(0, .sl 1 (X5.u8s l)), (1, .fn 85 [.ptr 0 b 0]), (7, int l.length), (8, int k)], [(b, .cells (frC f))], none_⟩ := by
  intro r
  induction r with
  | nil =>
    intro d k hd hk hno
    have hlk : (l.length : Int) = k := by rw [hd, hk]; simp
    rw [idxI_none (by rw [show l = d by simpa using hd]; exact hno)] at hQ
    clear hd
    generalize X5.u8s l = U at *
    generalize (l.length : Int) = n at *
    subst hlk
    refine run_sound (⟨fun | 4, 3 => .res (u8 0) | 4, 5 => told (bool true) [0] [] | _, _ => .no, [((2, 2), ([0, 1, 7, 8], 1))], fun  | _ => none⟩) 400 (B := bsplit (decide (n < n)) ((0 : Int) ≤ n ∧ U[Int.toNat n]? = some (u8 (0 : Int)) ∧ TCalls Try.prog 85 [u8 (0 : Int), T.ptr 0 b 0] [(b, Ob.cells [u8 (Fm.kind f), u8 (Fm.frm f), u8 (Fm.to f), u32 (Fm.epoch f), u8 (Fm.key f), u32 (Stp.n (Wrd.s (Fm.w f))), u8 (Stp.b (Wrd.s (Fm.w f))), u8 (Stp.l (Wrd.s (Fm.w f))), bool (Wrd.h (Fm.w f)), T.v (Value.string (Wrd.t (Fm.w f))), bool (Wrd.r (Fm.w f)), bool (Fm.flag f), u8 (Fm.dir f), u8 (0 : Int), u32 (0 : Int), u32 (0 : Int), u8 (0 : Int), u32 (0 : Int), u8 (0 : Int), u8 (0 : Int), u8 (0 : Int), u32 (0 : Int), u32 (0 : Int), u32 (0 : Int), T.v (Value.slice none 0 0), u8 (0 : Int), u8 (0 : Int), u8 (0 : Int), u8 (0 : Int), u8 (0 : Int), u8 (0 : Int), u8 (0 : Int), u8 (0 : Int), T.v (Value.slice none 0 0)])] (fun x => none) (callPost (Hint.call false Unit (fun x => True) [0] false (fun x => bool true) (fun x => []) fun x => none_)) ∧ ∀ (a : Unit), True → Q (int n) [(b, Ob.cells [u8 (Fm.kind f), u8 (Fm.frm f), u8 (Fm.to f), u32 (Fm.epoch f), u8 (Fm.key f), u32 (Stp.n (Wrd.s (Fm.w f))), u8 (Stp.b (Wrd.s (Fm.w f))), u8 (Stp.l (Wrd.s (Fm.w f))), bool (Wrd.h (Fm.w f)), T.v (Value.string (Wrd.t (Fm.w f))), bool (Wrd.r (Fm.w f)), bool (Fm.flag f), u8 (Fm.dir f), u8 (0 : Int), u32 (0 : Int), u32 (0 : Int), u8 (0 : Int), u32 (0 : Int), u8 (0 : Int), u8 (0 : Int), u8 (0 : Int), u32 (0 : Int), u32 (0 : Int), u32 (0 : Int), T.v (Value.slice none 0 0), u8 (0 : Int), u8 (0 : Int), u8 (0 : Int), u8 (0 : Int), u8 (0 : Int), u8 (0 : Int), u8 (0 : Int), u8 (0 : Int), T.v (Value.slice none 0 0)])] fun x => none) (Q (int (-1 : Int)) [(b, Ob.cells [u8 (Fm.kind f), u8 (Fm.frm f), u8 (Fm.to f), u32 (Fm.epoch f), u8 (Fm.key f), u32 (Stp.n (Wrd.s (Fm.w f))), u8 (Stp.b (Wrd.s (Fm.w f))), u8 (Stp.l (Wrd.s (Fm.w f))), bool (Wrd.h (Fm.w f)), T.v (Value.string (Wrd.t (Fm.w f))), bool (Wrd.r (Fm.w f)), bool (Fm.flag f), u8 (Fm.dir f), u8 (0 : Int), u32 (0 : Int), u32 (0 : Int), u8 (0 : Int), u32 (0 : Int), u8 (0 : Int), u8 (0 : Int), u8 (0 : Int), u32 (0 : Int), u32 (0 : Int), u32 (0 : Int), T.v (Value.slice none 0 0), u8 (0 : Int), u8 (0 : Int), u8 (0 : Int), u8 (0 : Int), u8 (0 : Int), u8 (0 : Int), u8 (0 : Int), u8 (0 : Int), T.v (Value.slice none 0 0)])] fun x => none)) (by kernel_rfl) ?_
    repeat' (first | exact rfl | exact Nat.le_of_ble_eq_true rfl | refine And.intro ?_ ?_ | intro _ | refine bsplit_mk (fun _ => ?_) (fun _ => ?_))
    all_goals first
      | exact hQ
      | (exfalso; simp at *; done)
      | trace_state
  | cons m r ih =>
    intro d k hd hk hno
    have hlk : k < (l.length : Int) := by rw [hd, hk]; simp; omega
    have hw : IntKind.wrap .i64 (k + 1) = k + 1 := wrap_i64 (by omega) (by omega)
    have e1 : (X5.u8s l)[k.toNat]? = some (u8 m) := u8s_at (by rw [hd, hk]; simp)
    have l1 : (X5.u8s l).length = l.length := X5.u8s_len l
    have yes : (Rep.ad m == f.frm) = true → Q (int k) [(b, .cells (frC f))] none_ := fun h => by
      rw [idxI_at hd hno h, ← hk] at hQ; exact hQ
    have nx : (Rep.ad m == f.frm) = false → TWk Try.prog Γ (fin Try.prog Try.f84 [0] Q) [.code (sub (bd Try.f84) [1, 0, 1, 0]), .blk 0, .code (sub (bd Try.f84) [1, 1])] ⟨frame 19 [(0, .sl 1 (X5.u8s l)), (1, .fn 85 [.ptr 0 b 0]), (7, int l.length), (8, int (k + 1))], [(b, .cells (frC f))], none_⟩ := fun h => ih (d ++ [m]) (k + 1) (by simp [hd]) (by simp [hk]) (fun y hy => by
      rcases List.mem_append.1 hy with h1 | h1
      · exact hno y h1
      · simp at h1; subst h1; exact h)
    clear ih hd hQ
    generalize X5.u8s l = U at *
    generalize (l.length : Int) = n at *
    refine run_sound (⟨fun | 4, 3 => .res (u8 m) | 4, 5 => told (bool (Rep.ad m == f.frm)) [0] [(b, .cells (frC f))] | 6, 0 => .res (int (k + 1)) | _, _ => .no, [((2, 2), ([0, 1, 7, 8], 1))], fun  | _ => none⟩) 400 (B := bsplit (decide (k < n)) ((0 : Int) ≤ k ∧ U[Int.toNat k]? = some (u8 m) ∧ TCalls Try.prog 85 [u8 m, T.ptr 0 b 0] [(b, Ob.cells [u8 (Fm.kind f), u8 (Fm.frm f), u8 (Fm.to f), u32 (Fm.epoch f), u8 (Fm.key f), u32 (Stp.n (Wrd.s (Fm.w f))), u8 (Stp.b (Wrd.s (Fm.w f))), u8 (Stp.l (Wrd.s (Fm.w f))), bool (Wrd.h (Fm.w f)), T.v (Value.string (Wrd.t (Fm.w f))), bool (Wrd.r (Fm.w f)), bool (Fm.flag f), u8 (Fm.dir f), u8 (0 : Int), u32 (0 : Int), u32 (0 : Int), u8 (0 : Int), u32 (0 : Int), u8 (0 : Int), u8 (0 : Int), u8 (0 : Int), u32 (0 : Int), u32 (0 : Int), u32 (0 : Int), T.v (Value.slice none 0 0), u8 (0 : Int), u8 (0 : Int), u8 (0 : Int), u8 (0 : Int), u8 (0 : Int), u8 (0 : Int), u8 (0 : Int), u8 (0 : Int), T.v (Value.slice none 0 0)])] (fun x => none) (callPost (Hint.call false Unit (fun x => True) [0] false (fun x => bool (Rep.ad m == Fm.frm f)) (fun x => [(b, Ob.cells (frC f))]) fun x => none_)) ∧ ∀ (a : Unit), True → bsplit (Rep.ad m == Fm.frm f) (Q (int k) [(b, Ob.cells [u8 (Fm.kind f), u8 (Fm.frm f), u8 (Fm.to f), u32 (Fm.epoch f), u8 (Fm.key f), u32 (Stp.n (Wrd.s (Fm.w f))), u8 (Stp.b (Wrd.s (Fm.w f))), u8 (Stp.l (Wrd.s (Fm.w f))), bool (Wrd.h (Fm.w f)), T.v (Value.string (Wrd.t (Fm.w f))), bool (Wrd.r (Fm.w f)), bool (Fm.flag f), u8 (Fm.dir f), u8 (0 : Int), u32 (0 : Int), u32 (0 : Int), u8 (0 : Int), u32 (0 : Int), u8 (0 : Int), u8 (0 : Int), u8 (0 : Int), u32 (0 : Int), u32 (0 : Int), u32 (0 : Int), T.v (Value.slice none 0 0), u8 (0 : Int), u8 (0 : Int), u8 (0 : Int), u8 (0 : Int), u8 (0 : Int), u8 (0 : Int), u8 (0 : Int), u8 (0 : Int), T.v (Value.slice none 0 0)])] fun x => none) (int (IntKind.wrap IntKind.i64 (k + (1 : Int))) = int (k + (1 : Int)) ∧ TWk Try.prog Γ (fin Try.prog Try.f84 [0] Q) [It.code (sub (bd Try.f84) [1, 0, 1, 0]), It.blk 0, It.code (sub (bd Try.f84) [1, 1])] { fr := frame 19 [(0, T.sl 1 U), (1, T.fn 85 [T.ptr 0 b 0]), (7, int n), (8, int (k + (1 : Int)))], ob := [(b, Ob.cells [u8 (Fm.kind f), u8 (Fm.frm f), u8 (Fm.to f), u32 (Fm.epoch f), u8 (Fm.key f), u32 (Stp.n (Wrd.s (Fm.w f))), u8 (Stp.b (Wrd.s (Fm.w f))), u8 (Stp.l (Wrd.s (Fm.w f))), bool (Wrd.h (Fm.w f)), T.v (Value.string (Wrd.t (Fm.w f))), bool (Wrd.r (Fm.w f)), bool (Fm.flag f), u8 (Fm.dir f), u8 (0 : Int), u32 (0 : Int), u32 (0 : Int), u8 (0 : Int), u32 (0 : Int), u8 (0 : Int), u8 (0 : Int), u8 (0 : Int), u32 (0 : Int), u32 (0 : Int), u32 (0 : Int), T.v (Value.slice none 0 0), u8 (0 : Int), u8 (0 : Int), u8 (0 : Int), u8 (0 : Int), u8 (0 : Int), u8 (0 : Int), u8 (0 : Int), u8 (0 : Int), T.v (Value.slice none 0 0)])], gl := fun x => none })) (Q (int (-1 : Int)) [(b, Ob.cells [u8 (Fm.kind f), u8 (Fm.frm f), u8 (Fm.to f), u32 (Fm.epoch f), u8 (Fm.key f), u32 (Stp.n (Wrd.s (Fm.w f))), u8 (Stp.b (Wrd.s (Fm.w f))), u8 (Stp.l (Wrd.s (Fm.w f))), bool (Wrd.h (Fm.w f)), T.v (Value.string (Wrd.t (Fm.w f))), bool (Wrd.r (Fm.w f)), bool (Fm.flag f), u8 (Fm.dir f), u8 (0 : Int), u32 (0 : Int), u32 (0 : Int), u8 (0 : Int), u32 (0 : Int), u8 (0 : Int), u8 (0 : Int), u8 (0 : Int), u32 (0 : Int), u32 (0 : Int), u32 (0 : Int), T.v (Value.slice none 0 0), u8 (0 : Int), u8 (0 : Int), u8 (0 : Int), u8 (0 : Int), u8 (0 : Int), u8 (0 : Int), u8 (0 : Int), u8 (0 : Int), T.v (Value.slice none 0 0)])] fun x => none)) (by kernel_rfl) ?_
    repeat' (first | exact rfl | exact Nat.le_of_ble_eq_true rfl | refine And.intro ?_ ?_ | intro _ | refine bsplit_mk (fun _ => ?_) (fun _ => ?_))
    all_goals first
      | exact e1
      | exact congrArg int hw
      | exact sn1_any m b f _ (told_post rfl)
      | (rename_i h; exact yes h)
      | (rename_i h; exact nx h)
      | omega
      | (exfalso; rename_i h; have := of_decide_eq_false h; omega)
      | trace_state
theorem idx_any (b : Nat) (f : Fm) (l : List Nat) (hl : l.length ≤ 1000000) (Q : T → Obs → Glb → Prop) (hQ : Q (int (idxI l fun n => Rep.ad n == f.frm)) [(b, .cells (frC f))] none_) : TCalls Try.prog 84 [.sl 1 (X5.u8s l), .fn 85 [.ptr 0 b 0]] [(b, .cells (frC f))] none_ Q := by
  have lp := fun Γ => idx_loop Γ b f l hl Q hQ l [] 0 rfl rfl (by simp)
  rw [← X5.u8s_len l] at lp
  generalize X5.u8s l = U at *
  refine TCalls.of Try.func84 rfl (CanCall.of Try.func84 rfl (by decide)) [0] fun Γ => ?_
  refine run_sound (⟨fun _ _ => .no, [((2, 2), ([0, 1, 7, 8], 1))], fun _ => none⟩) 400 (B := TWk Try.prog Γ (fin Try.prog Try.f84 [0] Q) [It.code (sub (bd Try.f84) [1, 0, 1, 0]), It.blk 0, It.code (sub (bd Try.f84) [1, 1])] { fr := frame 19 [(0, T.sl 1 U), (1, T.fn 85 [T.ptr 0 b 0]), (7, int (List.length U)), (8, int (0 : Int))], ob := [(b, Ob.cells [u8 (Fm.kind f), u8 (Fm.frm f), u8 (Fm.to f), u32 (Fm.epoch f), u8 (Fm.key f), u32 (Stp.n (Wrd.s (Fm.w f))), u8 (Stp.b (Wrd.s (Fm.w f))), u8 (Stp.l (Wrd.s (Fm.w f))), bool (Wrd.h (Fm.w f)), T.v (Value.string (Wrd.t (Fm.w f))), bool (Wrd.r (Fm.w f)), bool (Fm.flag f), u8 (Fm.dir f), u8 (0 : Int), u32 (0 : Int), u32 (0 : Int), u8 (0 : Int), u32 (0 : Int), u8 (0 : Int), u8 (0 : Int), u8 (0 : Int), u32 (0 : Int), u32 (0 : Int), u32 (0 : Int), T.v (Value.slice none 0 0), u8 (0 : Int), u8 (0 : Int), u8 (0 : Int), u8 (0 : Int), u8 (0 : Int), u8 (0 : Int), u8 (0 : Int), u8 (0 : Int), T.v (Value.slice none 0 0)])], gl := fun x => none }) (by kernel_rfl) ?_
  repeat' (first | exact rfl | exact Nat.le_of_ble_eq_true rfl | refine And.intro ?_ ?_ | intro _ | refine bsplit_mk (fun _ => ?_) (fun _ => ?_))
  exact lp _
def snT (o : Option Nat) : T := match o with
  | some n => .tup [u8 n, bool true]
  | none => .tup [u8 0, bool false]
theorem sender_any (b : Nat) (r : RS) (D : Dr) (f : Fm) (hl : lim r.v.ms) (Q : T → Obs → Glb → Prop) (hQ : Q (snT (Rep.sender r f)) (obsR b r D) none_) : TCalls Try.prog 48 [.ptr 0 b 0, .agg (frC f)] (obsR b r D) none_ Q := by
  have hlen : (Rep.oth r).length ≤ 1000000 := Nat.le_trans (X5.othV_len _ _) hl
  have e1 : IntKind.wrap .u8 (16 + (r.self : Int)) = (Rep.ad r.self : Nat) := ad_w _
  by_cases hc : Rep.inR r = true ∧ f.to = Rep.ad r.self ∧ f.epoch = r.v.e ∧ f.key < 6
  · rw [show Rep.sender r f = (Rep.oth r).find? (fun n => Rep.ad n == f.frm) from if_pos hc] at hQ
    obtain ⟨h1, h2, h3, h4⟩ := hc
    rcases find_idx (Rep.oth r) (fun n => Rep.ad n == f.frm) with ⟨g1, g2⟩ | ⟨i, x, g1, g2, g3⟩
    · rw [g1] at hQ
      have hix := fun bf => idx_any bf f (Rep.oth r) hlen
      rw [g2] at hix
      refine TCalls.of Try.func48 rfl (CanCall.of Try.func48 rfl (by decide)) [0] fun Γ => ?_
      refine run_sound (⟨fun | 1, 1 => told (bool true) [0] (obsR b r D) | 3, 1 => othH b r D | 3, 3 => .withB fun B => told (int (-1)) [1] [(B.getD 1 0, .cells (frC f))] | _, _ => .no, [], fun | 1 => some ⟨[], [1], .take true [0] (.one 1 (.take false [2,3,4,5,7,8,9] (.two 6 10 (.one 10 (.take false [11,12,13,14,15,17,18,19,20] (.two 16 21 (.one 21 (.take false [22,23,24,25] (.one 26 (.take false [27,28] .done)))) (.one 16 (.take false [22,23,24,25] (.one 26 (.take false [27,28] .done))))))) (.take false [11] (.one 6 (.take false [12,13,14,15,17,18,19,20] (.two 16 21 (.one 21 (.take false [22,23,24,25] (.one 26 (.take false [27,28] .done)))) (.one 16 (.take false [22,23,24,25] (.one 26 (.take false [27,28] .done)))))))))))⟩ | _ => none⟩) 400 (B := ∀ (b_1 : Nat), TCalls Try.prog 33 [T.ptr 0 b 0] [(b, Ob.cells (repC r D))] (fun x => none) (callPost (Hint.call false Unit (fun x => True) [0] false (fun x => bool true) (fun x => obsR b r D) fun x => none_)) ∧ ∀ (a : Unit), True → (b_1 = b_1 ∧ b = b ∧ bsplit ((↑(Fm.to f) : Int) != IntKind.wrap IntKind.u8 ((16 : Int) + (↑(RS.self r) : Int))) ((Q (T.tup [u8 (0 : Int), bool false]) [(b, Ob.cells (repC r D))] fun x => none) ∧ Q (T.tup [u8 (0 : Int), bool false]) [(b, Ob.cells (repC r D))] fun x => none) ((b_1 = b_1 ∧ b = b ∧ bsplit (Fm.epoch f != View.VS.e (RS.v r)) (Q (T.tup [u8 (0 : Int), bool false]) [(b, Ob.cells (repC r D))] fun x => none) (b_1 = b_1 ∧ bsplit (decide ((↑(Fm.key f) : Int) ≥ (6 : Int))) (Q (T.tup [u8 (0 : Int), bool false]) [(b, Ob.cells (repC r D))] fun x => none) (TCalls Try.prog 38 [T.ptr 0 b 0] [(b, Ob.cells (repC r D))] (fun x => none) (callPost (Hint.call false Unit (fun x => True) [0] false (fun x => T.sl 1 (X5.u8s (Rep.oth r))) (fun x => obsR b r D) fun x => none_)) ∧ ∀ (a : Unit), True → TCalls Try.prog 84 [T.sl 1 (X5.u8s (Rep.oth r)), T.fn 85 [T.ptr 0 b_1 0]] [(b_1, Ob.cells [u8 (Fm.kind f), u8 (Fm.frm f), u8 (Fm.to f), u32 (Fm.epoch f), u8 (Fm.key f), u32 (Stp.n (Wrd.s (Fm.w f))), u8 (Stp.b (Wrd.s (Fm.w f))), u8 (Stp.l (Wrd.s (Fm.w f))), bool (Wrd.h (Fm.w f)), T.v (Value.string (Wrd.t (Fm.w f))), bool (Wrd.r (Fm.w f)), bool (Fm.flag f), u8 (Fm.dir f), u8 (0 : Int), u32 (0 : Int), u32 (0 : Int), u8 (0 : Int), u32 (0 : Int), u8 (0 : Int), u8 (0 : Int), u8 (0 : Int), u32 (0 : Int), u32 (0 : Int), u32 (0 : Int), T.v (Value.slice none 0 0), u8 (0 : Int), u8 (0 : Int), u8 (0 : Int), u8 (0 : Int), u8 (0 : Int), u8 (0 : Int), u8 (0 : Int), u8 (0 : Int), T.v (Value.slice none 0 0)])] (fun x => none) (callPost (Hint.call false Unit (fun x => True) [1] false (fun x => int (-1 : Int)) (fun x => [(b_1, Ob.cells (frC f))]) fun x => none_)) ∧ ∀ (a : Unit), True → Q (T.tup [u8 (0 : Int), bool false]) [(b, Ob.cells (repC r D))] fun x => none))) ∧ b = b ∧ b_1 = b_1 ∧ bsplit (Fm.epoch f != View.VS.e (RS.v r)) (Q (T.tup [u8 (0 : Int), bool false]) [(b, Ob.cells (repC r D))] fun x => none) (b_1 = b_1 ∧ bsplit (decide ((↑(Fm.key f) : Int) ≥ (6 : Int))) (Q (T.tup [u8 (0 : Int), bool false]) [(b, Ob.cells (repC r D))] fun x => none) (TCalls Try.prog 38 [T.ptr 0 b 0] [(b, Ob.cells (repC r D))] (fun x => none) (callPost (Hint.call false Unit (fun x => True) [0] false (fun x => T.sl 1 (X5.u8s (Rep.oth r))) (fun x => obsR b r D) fun x => none_)) ∧ ∀ (a : Unit), True → TCalls Try.prog 84 [T.sl 1 (X5.u8s (Rep.oth r)), T.fn 85 [T.ptr 0 b_1 0]] [(b_1, Ob.cells [u8 (Fm.kind f), u8 (Fm.frm f), u8 (Fm.to f), u32 (Fm.epoch f), u8 (Fm.key f), u32 (Stp.n (Wrd.s (Fm.w f))), u8 (Stp.b (Wrd.s (Fm.w f))), u8 (Stp.l (Wrd.s (Fm.w f))), bool (Wrd.h (Fm.w f)), T.v (Value.string (Wrd.t (Fm.w f))), bool (Wrd.r (Fm.w f)), bool (Fm.flag f), u8 (Fm.dir f), u8 (0 : Int), u32 (0 : Int), u32 (0 : Int), u8 (0 : Int), u32 (0 : Int), u8 (0 : Int), u8 (0 : Int), u8 (0 : Int), u32 (0 : Int), u32 (0 : Int), u32 (0 : Int), T.v (Value.slice none 0 0), u8 (0 : Int), u8 (0 : Int), u8 (0 : Int), u8 (0 : Int), u8 (0 : Int), u8 (0 : Int), u8 (0 : Int), u8 (0 : Int), T.v (Value.slice none 0 0)])] (fun x => none) (callPost (Hint.call false Unit (fun x => True) [1] false (fun x => int (-1 : Int)) (fun x => [(b_1, Ob.cells (frC f))]) fun x => none_)) ∧ ∀ (a : Unit), True → Q (T.tup [u8 (0 : Int), bool false]) [(b, Ob.cells (repC r D))] fun x => none)))) ∧ b = b ∧ b_1 = b_1 ∧ bsplit ((↑(Fm.to f) : Int) != IntKind.wrap IntKind.u8 ((16 : Int) + (↑(RS.self r) : Int))) ((Q (T.tup [u8 (0 : Int), bool false]) [(b, Ob.cells (repC r D))] fun x => none) ∧ Q (T.tup [u8 (0 : Int), bool false]) [(b, Ob.cells (repC r D))] fun x => none) ((b_1 = b_1 ∧ b = b ∧ bsplit (Fm.epoch f != View.VS.e (RS.v r)) (Q (T.tup [u8 (0 : Int), bool false]) [(b, Ob.cells (repC r D))] fun x => none) (b_1 = b_1 ∧ bsplit (decide ((↑(Fm.key f) : Int) ≥ (6 : Int))) (Q (T.tup [u8 (0 : Int), bool false]) [(b, Ob.cells (repC r D))] fun x => none) (TCalls Try.prog 38 [T.ptr 0 b 0] [(b, Ob.cells (repC r D))] (fun x => none) (callPost (Hint.call false Unit (fun x => True) [0] false (fun x => T.sl 1 (X5.u8s (Rep.oth r))) (fun x => obsR b r D) fun x => none_)) ∧ ∀ (a : Unit), True → TCalls Try.prog 84 [T.sl 1 (X5.u8s (Rep.oth r)), T.fn 85 [T.ptr 0 b_1 0]] [(b_1, Ob.cells [u8 (Fm.kind f), u8 (Fm.frm f), u8 (Fm.to f), u32 (Fm.epoch f), u8 (Fm.key f), u32 (Stp.n (Wrd.s (Fm.w f))), u8 (Stp.b (Wrd.s (Fm.w f))), u8 (Stp.l (Wrd.s (Fm.w f))), bool (Wrd.h (Fm.w f)), T.v (Value.string (Wrd.t (Fm.w f))), bool (Wrd.r (Fm.w f)), bool (Fm.flag f), u8 (Fm.dir f), u8 (0 : Int), u32 (0 : Int), u32 (0 : Int), u8 (0 : Int), u32 (0 : Int), u8 (0 : Int), u8 (0 : Int), u8 (0 : Int), u32 (0 : Int), u32 (0 : Int), u32 (0 : Int), T.v (Value.slice none 0 0), u8 (0 : Int), u8 (0 : Int), u8 (0 : Int), u8 (0 : Int), u8 (0 : Int), u8 (0 : Int), u8 (0 : Int), u8 (0 : Int), T.v (Value.slice none 0 0)])] (fun x => none) (callPost (Hint.call false Unit (fun x => True) [1] false (fun x => int (-1 : Int)) (fun x => [(b_1, Ob.cells (frC f))]) fun x => none_)) ∧ ∀ (a : Unit), True → Q (T.tup [u8 (0 : Int), bool false]) [(b, Ob.cells (repC r D))] fun x => none))) ∧ b = b ∧ b_1 = b_1 ∧ bsplit (Fm.epoch f != View.VS.e (RS.v r)) (Q (T.tup [u8 (0 : Int), bool false]) [(b, Ob.cells (repC r D))] fun x => none) (b_1 = b_1 ∧ bsplit (decide ((↑(Fm.key f) : Int) ≥ (6 : Int))) (Q (T.tup [u8 (0 : Int), bool false]) [(b, Ob.cells (repC r D))] fun x => none) (TCalls Try.prog 38 [T.ptr 0 b 0] [(b, Ob.cells (repC r D))] (fun x => none) (callPost (Hint.call false Unit (fun x => True) [0] false (fun x => T.sl 1 (X5.u8s (Rep.oth r))) (fun x => obsR b r D) fun x => none_)) ∧ ∀ (a : Unit), True → TCalls Try.prog 84 [T.sl 1 (X5.u8s (Rep.oth r)), T.fn 85 [T.ptr 0 b_1 0]] [(b_1, Ob.cells [u8 (Fm.kind f), u8 (Fm.frm f), u8 (Fm.to f), u32 (Fm.epoch f), u8 (Fm.key f), u32 (Stp.n (Wrd.s (Fm.w f))), u8 (Stp.b (Wrd.s (Fm.w f))), u8 (Stp.l (Wrd.s (Fm.w f))), bool (Wrd.h (Fm.w f)), T.v (Value.string (Wrd.t (Fm.w f))), bool (Wrd.r (Fm.w f)), bool (Fm.flag f), u8 (Fm.dir f), u8 (0 : Int), u32 (0 : Int), u32 (0 : Int), u8 (0 : Int), u32 (0 : Int), u8 (0 : Int), u8 (0 : Int), u8 (0 : Int), u32 (0 : Int), u32 (0 : Int), u32 (0 : Int), T.v (Value.slice none 0 0), u8 (0 : Int), u8 (0 : Int), u8 (0 : Int), u8 (0 : Int), u8 (0 : Int), u8 (0 : Int), u8 (0 : Int), u8 (0 : Int), T.v (Value.slice none 0 0)])] (fun x => none) (callPost (Hint.call false Unit (fun x => True) [1] false (fun x => int (-1 : Int)) (fun x => [(b_1, Ob.cells (frC f))]) fun x => none_)) ∧ ∀ (a : Unit), True → Q (T.tup [u8 (0 : Int), bool false]) [(b, Ob.cells (repC r D))] fun x => none)))) (by kernel_rfl) ?_
      rw [e1]
      repeat' (first | exact rfl | exact Nat.le_of_ble_eq_true rfl | refine And.intro ?_ ?_ | intro _ | refine bsplit_mk (fun _ => ?_) (fun _ => ?_))
      all_goals first
        | exact in_any b r D hl _ (told_post (by rw [h1]))
        | exact oth_any b r D hl _ (told_post rfl)
        | exact hix _ _ (told_post rfl)
        | exact hQ
        | (exfalso; simp only [bne_iff_ne, decide_eq_true_eq] at *; omega)
        | trace_state
    · rw [g1] at hQ
      have hix := fun bf => idx_any bf f (Rep.oth r) hlen
      rw [g2] at hix
      have hi : i < (Rep.oth r).length := (List.getElem?_eq_some_iff.1 g3).1
      have g4 : (X5.u8s (Rep.oth r))[((i : Int)).toNat]? = some (u8 x) := u8s_at g3
      have g5 : (X5.u8s (Rep.oth r)).length = (Rep.oth r).length := X5.u8s_len _
      have hot := oth_any b r D hl
      generalize X5.u8s (Rep.oth r) = U at *
      refine TCalls.of Try.func48 rfl (CanCall.of Try.func48 rfl (by decide)) [0] fun Γ => ?_
      refine run_sound (⟨fun | 1, 1 => told (bool true) [0] (obsR b r D) | 3, 1 => told (.sl 1 U) [0] (obsR b r D) | 3, 3 => .withB fun B => told (int i) [1] [(B.getD 1 0, .cells (frC f))] | 6, 1 => told (.sl 1 U) [0] (obsR b r D) | 6, 3 => .res (u8 x) | _, _ => .no, [], fun | 1 => some ⟨[], [1], .take true [0] (.one 1 (.take false [2,3,4,5,7,8,9] (.two 6 10 (.one 10 (.take false [11,12,13,14,15,17,18,19,20] (.two 16 21 (.one 21 (.take false [22,23,24,25] (.one 26 (.take false [27,28] .done)))) (.one 16 (.take false [22,23,24,25] (.one 26 (.take false [27,28] .done))))))) (.take false [11] (.one 6 (.take false [12,13,14,15,17,18,19,20] (.two 16 21 (.one 21 (.take false [22,23,24,25] (.one 26 (.take false [27,28] .done)))) (.one 16 (.take false [22,23,24,25] (.one 26 (.take false [27,28] .done)))))))))))⟩ | _ => none⟩) 400 (B := ∀ (b_1 : Nat), TCalls Try.prog 33 [T.ptr 0 b 0] [(b, Ob.cells (repC r D))] (fun x => none) (callPost (Hint.call false Unit (fun x => True) [0] false (fun x => bool true) (fun x => obsR b r D) fun x => none_)) ∧ ∀ (a : Unit), True → (b_1 = b_1 ∧ b = b ∧ bsplit ((↑(Fm.to f) : Int) != IntKind.wrap IntKind.u8 ((16 : Int) + (↑(RS.self r) : Int))) ((Q (T.tup [u8 (0 : Int), bool false]) [(b, Ob.cells (repC r D))] fun x => none) ∧ Q (T.tup [u8 (0 : Int), bool false]) [(b, Ob.cells (repC r D))] fun x => none) ((b_1 = b_1 ∧ b = b ∧ bsplit (Fm.epoch f != View.VS.e (RS.v r)) (Q (T.tup [u8 (0 : Int), bool false]) [(b, Ob.cells (repC r D))] fun x => none) (b_1 = b_1 ∧ bsplit (decide ((↑(Fm.key f) : Int) ≥ (6 : Int))) (Q (T.tup [u8 (0 : Int), bool false]) [(b, Ob.cells (repC r D))] fun x => none) (TCalls Try.prog 38 [T.ptr 0 b 0] [(b, Ob.cells (repC r D))] (fun x => none) (callPost (Hint.call false Unit (fun x => True) [0] false (fun x => T.sl 1 U) (fun x => obsR b r D) fun x => none_)) ∧ ∀ (a : Unit), True → TCalls Try.prog 84 [T.sl 1 U, T.fn 85 [T.ptr 0 b_1 0]] [(b_1, Ob.cells [u8 (Fm.kind f), u8 (Fm.frm f), u8 (Fm.to f), u32 (Fm.epoch f), u8 (Fm.key f), u32 (Stp.n (Wrd.s (Fm.w f))), u8 (Stp.b (Wrd.s (Fm.w f))), u8 (Stp.l (Wrd.s (Fm.w f))), bool (Wrd.h (Fm.w f)), T.v (Value.string (Wrd.t (Fm.w f))), bool (Wrd.r (Fm.w f)), bool (Fm.flag f), u8 (Fm.dir f), u8 (0 : Int), u32 (0 : Int), u32 (0 : Int), u8 (0 : Int), u32 (0 : Int), u8 (0 : Int), u8 (0 : Int), u8 (0 : Int), u32 (0 : Int), u32 (0 : Int), u32 (0 : Int), T.v (Value.slice none 0 0), u8 (0 : Int), u8 (0 : Int), u8 (0 : Int), u8 (0 : Int), u8 (0 : Int), u8 (0 : Int), u8 (0 : Int), u8 (0 : Int), T.v (Value.slice none 0 0)])] (fun x => none) (callPost (Hint.call false Unit (fun x => True) [1] false (fun x => int (↑i : Int)) (fun x => [(b_1, Ob.cells (frC f))]) fun x => none_)) ∧ ∀ (a : Unit), True → TCalls Try.prog 38 [T.ptr 0 b 0] [(b, Ob.cells (repC r D))] (fun x => none) (callPost (Hint.call false Unit (fun x => True) [0] false (fun x => T.sl 1 U) (fun x => obsR b r D) fun x => none_)) ∧ ∀ (a : Unit), True → (0 : Int) ≤ (↑i : Int) ∧ U[Int.toNat (↑i : Int)]? = some (u8 x) ∧ Q (T.tup [u8 x, bool true]) [(b, Ob.cells (repC r D))] fun x => none))) ∧ b = b ∧ b_1 = b_1 ∧ bsplit (Fm.epoch f != View.VS.e (RS.v r)) (Q (T.tup [u8 (0 : Int), bool false]) [(b, Ob.cells (repC r D))] fun x => none) (b_1 = b_1 ∧ bsplit (decide ((↑(Fm.key f) : Int) ≥ (6 : Int))) (Q (T.tup [u8 (0 : Int), bool false]) [(b, Ob.cells (repC r D))] fun x => none) (TCalls Try.prog 38 [T.ptr 0 b 0] [(b, Ob.cells (repC r D))] (fun x => none) (callPost (Hint.call false Unit (fun x => True) [0] false (fun x => T.sl 1 U) (fun x => obsR b r D) fun x => none_)) ∧ ∀ (a : Unit), True → TCalls Try.prog 84 [T.sl 1 U, T.fn 85 [T.ptr 0 b_1 0]] [(b_1, Ob.cells [u8 (Fm.kind f), u8 (Fm.frm f), u8 (Fm.to f), u32 (Fm.epoch f), u8 (Fm.key f), u32 (Stp.n (Wrd.s (Fm.w f))), u8 (Stp.b (Wrd.s (Fm.w f))), u8 (Stp.l (Wrd.s (Fm.w f))), bool (Wrd.h (Fm.w f)), T.v (Value.string (Wrd.t (Fm.w f))), bool (Wrd.r (Fm.w f)), bool (Fm.flag f), u8 (Fm.dir f), u8 (0 : Int), u32 (0 : Int), u32 (0 : Int), u8 (0 : Int), u32 (0 : Int), u8 (0 : Int), u8 (0 : Int), u8 (0 : Int), u32 (0 : Int), u32 (0 : Int), u32 (0 : Int), T.v (Value.slice none 0 0), u8 (0 : Int), u8 (0 : Int), u8 (0 : Int), u8 (0 : Int), u8 (0 : Int), u8 (0 : Int), u8 (0 : Int), u8 (0 : Int), T.v (Value.slice none 0 0)])] (fun x => none) (callPost (Hint.call false Unit (fun x => True) [1] false (fun x => int (↑i : Int)) (fun x => [(b_1, Ob.cells (frC f))]) fun x => none_)) ∧ ∀ (a : Unit), True → TCalls Try.prog 38 [T.ptr 0 b 0] [(b, Ob.cells (repC r D))] (fun x => none) (callPost (Hint.call false Unit (fun x => True) [0] false (fun x => T.sl 1 U) (fun x => obsR b r D) fun x => none_)) ∧ ∀ (a : Unit), True → (0 : Int) ≤ (↑i : Int) ∧ U[Int.toNat (↑i : Int)]? = some (u8 x) ∧ Q (T.tup [u8 x, bool true]) [(b, Ob.cells (repC r D))] fun x => none)))) ∧ b = b ∧ b_1 = b_1 ∧ bsplit ((↑(Fm.to f) : Int) != IntKind.wrap IntKind.u8 ((16 : Int) + (↑(RS.self r) : Int))) ((Q (T.tup [u8 (0 : Int), bool false]) [(b, Ob.cells (repC r D))] fun x => none) ∧ Q (T.tup [u8 (0 : Int), bool false]) [(b, Ob.cells (repC r D))] fun x => none) ((b_1 = b_1 ∧ b = b ∧ bsplit (Fm.epoch f != View.VS.e (RS.v r)) (Q (T.tup [u8 (0 : Int), bool false]) [(b, Ob.cells (repC r D))] fun x => none) (b_1 = b_1 ∧ bsplit (decide ((↑(Fm.key f) : Int) ≥ (6 : Int))) (Q (T.tup [u8 (0 : Int), bool false]) [(b, Ob.cells (repC r D))] fun x => none) (TCalls Try.prog 38 [T.ptr 0 b 0] [(b, Ob.cells (repC r D))] (fun x => none) (callPost (Hint.call false Unit (fun x => True) [0] false (fun x => T.sl 1 U) (fun x => obsR b r D) fun x => none_)) ∧ ∀ (a : Unit), True → TCalls Try.prog 84 [T.sl 1 U, T.fn 85 [T.ptr 0 b_1 0]] [(b_1, Ob.cells [u8 (Fm.kind f), u8 (Fm.frm f), u8 (Fm.to f), u32 (Fm.epoch f), u8 (Fm.key f), u32 (Stp.n (Wrd.s (Fm.w f))), u8 (Stp.b (Wrd.s (Fm.w f))), u8 (Stp.l (Wrd.s (Fm.w f))), bool (Wrd.h (Fm.w f)), T.v (Value.string (Wrd.t (Fm.w f))), bool (Wrd.r (Fm.w f)), bool (Fm.flag f), u8 (Fm.dir f), u8 (0 : Int), u32 (0 : Int), u32 (0 : Int), u8 (0 : Int), u32 (0 : Int), u8 (0 : Int), u8 (0 : Int), u8 (0 : Int), u32 (0 : Int), u32 (0 : Int), u32 (0 : Int), T.v (Value.slice none 0 0), u8 (0 : Int), u8 (0 : Int), u8 (0 : Int), u8 (0 : Int), u8 (0 : Int), u8 (0 : Int), u8 (0 : Int), u8 (0 : Int), T.v (Value.slice none 0 0)])] (fun x => none) (callPost (Hint.call false Unit (fun x => True) [1] false (fun x => int (↑i : Int)) (fun x => [(b_1, Ob.cells (frC f))]) fun x => none_)) ∧ ∀ (a : Unit), True → TCalls Try.prog 38 [T.ptr 0 b 0] [(b, Ob.cells (repC r D))] (fun x => none) (callPost (Hint.call false Unit (fun x => True) [0] false (fun x => T.sl 1 U) (fun x => obsR b r D) fun x => none_)) ∧ ∀ (a : Unit), True → (0 : Int) ≤ (↑i : Int) ∧ U[Int.toNat (↑i : Int)]? = some (u8 x) ∧ Q (T.tup [u8 x, bool true]) [(b, Ob.cells (repC r D))] fun x => none))) ∧ b = b ∧ b_1 = b_1 ∧ bsplit (Fm.epoch f != View.VS.e (RS.v r)) (Q (T.tup [u8 (0 : Int), bool false]) [(b, Ob.cells (repC r D))] fun x => none) (b_1 = b_1 ∧ bsplit (decide ((↑(Fm.key f) : Int) ≥ (6 : Int))) (Q (T.tup [u8 (0 : Int), bool false]) [(b, Ob.cells (repC r D))] fun x => none) (TCalls Try.prog 38 [T.ptr 0 b 0] [(b, Ob.cells (repC r D))] (fun x => none) (callPost (Hint.call false Unit (fun x => True) [0] false (fun x => T.sl 1 U) (fun x => obsR b r D) fun x => none_)) ∧ ∀ (a : Unit), True → TCalls Try.prog 84 [T.sl 1 U, T.fn 85 [T.ptr 0 b_1 0]] [(b_1, Ob.cells [u8 (Fm.kind f), u8 (Fm.frm f), u8 (Fm.to f), u32 (Fm.epoch f), u8 (Fm.key f), u32 (Stp.n (Wrd.s (Fm.w f))), u8 (Stp.b (Wrd.s (Fm.w f))), u8 (Stp.l (Wrd.s (Fm.w f))), bool (Wrd.h (Fm.w f)), T.v (Value.string (Wrd.t (Fm.w f))), bool (Wrd.r (Fm.w f)), bool (Fm.flag f), u8 (Fm.dir f), u8 (0 : Int), u32 (0 : Int), u32 (0 : Int), u8 (0 : Int), u32 (0 : Int), u8 (0 : Int), u8 (0 : Int), u8 (0 : Int), u32 (0 : Int), u32 (0 : Int), u32 (0 : Int), T.v (Value.slice none 0 0), u8 (0 : Int), u8 (0 : Int), u8 (0 : Int), u8 (0 : Int), u8 (0 : Int), u8 (0 : Int), u8 (0 : Int), u8 (0 : Int), T.v (Value.slice none 0 0)])] (fun x => none) (callPost (Hint.call false Unit (fun x => True) [1] false (fun x => int (↑i : Int)) (fun x => [(b_1, Ob.cells (frC f))]) fun x => none_)) ∧ ∀ (a : Unit), True → TCalls Try.prog 38 [T.ptr 0 b 0] [(b, Ob.cells (repC r D))] (fun x => none) (callPost (Hint.call false Unit (fun x => True) [0] false (fun x => T.sl 1 U) (fun x => obsR b r D) fun x => none_)) ∧ ∀ (a : Unit), True → (0 : Int) ≤ (↑i : Int) ∧ U[Int.toNat (↑i : Int)]? = some (u8 x) ∧ Q (T.tup [u8 x, bool true]) [(b, Ob.cells (repC r D))] fun x => none)))) (by kernel_rfl) ?_
      rw [e1]
      repeat' (first | exact rfl | exact Nat.le_of_ble_eq_true rfl | refine And.intro ?_ ?_ | intro _ | refine bsplit_mk (fun _ => ?_) (fun _ => ?_))
      all_goals first
        | exact in_any b r D hl _ (told_post (by rw [h1]))
        | exact hot _ (told_post rfl)
        | exact hix _ _ (told_post rfl)
        | exact hQ
        | exact g4
        | omega
        | (exfalso; simp only [bne_iff_ne, decide_eq_true_eq] at *; omega)
        | trace_state
  · rw [show Rep.sender r f = none from if_neg hc] at hQ
    refine TCalls.of Try.func48 rfl (CanCall.of Try.func48 rfl (by decide)) [0] fun Γ => ?_
    refine run_sound (⟨fun | 1, 1 => told (bool (Rep.inR r)) [0] (obsR b r D) | _, _ => .no, [((0, 3), ([0, 3], 1))], fun | 1 => some ⟨[], [1], .take true [0] (.one 1 (.take false [2,3,4,5,7,8,9] (.two 6 10 (.one 10 (.take false [11,12,13,14,15,17,18,19,20] (.two 16 21 (.one 21 (.take false [22,23,24,25] (.one 26 (.take false [27,28] .done)))) (.one 16 (.take false [22,23,24,25] (.one 26 (.take false [27,28] .done))))))) (.take false [11] (.one 6 (.take false [12,13,14,15,17,18,19,20] (.two 16 21 (.one 21 (.take false [22,23,24,25] (.one 26 (.take false [27,28] .done)))) (.one 16 (.take false [22,23,24,25] (.one 26 (.take false [27,28] .done)))))))))))⟩ | _ => none⟩) 400 (B := ∀ (b_1 : Nat), TCalls Try.prog 33 [T.ptr 0 b 0] [(b, Ob.cells (repC r D))] (fun x => none) (callPost (Hint.call false Unit (fun x => True) [0] false (fun x => bool (Rep.inR r)) (fun x => obsR b r D) fun x => none_)) ∧ ∀ (a : Unit), True → bsplit (!Rep.inR r) (((Q (T.tup [u8 (0 : Int), bool false]) [(b, Ob.cells (repC r D))] fun x => none) ∧ Q (T.tup [u8 (0 : Int), bool false]) [(b, Ob.cells (repC r D))] fun x => none) ∧ (Q (T.tup [u8 (0 : Int), bool false]) [(b, Ob.cells (repC r D))] fun x => none) ∧ Q (T.tup [u8 (0 : Int), bool false]) [(b, Ob.cells (repC r D))] fun x => none) ((b_1 = b_1 ∧ b = b ∧ bsplit ((↑(Fm.to f) : Int) != IntKind.wrap IntKind.u8 ((16 : Int) + (↑(RS.self r) : Int))) ((Q (T.tup [u8 (0 : Int), bool false]) [(b, Ob.cells (repC r D))] fun x => none) ∧ Q (T.tup [u8 (0 : Int), bool false]) [(b, Ob.cells (repC r D))] fun x => none) ((b_1 = b_1 ∧ b = b ∧ bsplit (Fm.epoch f != View.VS.e (RS.v r)) (Q (T.tup [u8 (0 : Int), bool false]) [(b, Ob.cells (repC r D))] fun x => none) (b_1 = b_1 ∧ bsplit (decide ((↑(Fm.key f) : Int) ≥ (6 : Int))) (Q (T.tup [u8 (0 : Int), bool false]) [(b, Ob.cells (repC r D))] fun x => none) (TWk Try.prog Γ (fin Try.prog Try.f48 [0] Q) [It.code (sub (bd Try.f48) [1, 1])] { fr := frame 47 [(0, T.ptr 0 b 0), (3, T.ptr 1 b_1 0)], ob := [(b, Ob.cells (repC r D))], gl := fun x => none }))) ∧ b = b ∧ b_1 = b_1 ∧ bsplit (Fm.epoch f != View.VS.e (RS.v r)) (Q (T.tup [u8 (0 : Int), bool false]) [(b, Ob.cells (repC r D))] fun x => none) (b_1 = b_1 ∧ bsplit (decide ((↑(Fm.key f) : Int) ≥ (6 : Int))) (Q (T.tup [u8 (0 : Int), bool false]) [(b, Ob.cells (repC r D))] fun x => none) (TWk Try.prog Γ (fin Try.prog Try.f48 [0] Q) [It.code (sub (bd Try.f48) [1, 1])] { fr := frame 47 [(0, T.ptr 0 b 0), (3, T.ptr 1 b_1 0)], ob := [(b, Ob.cells (repC r D))], gl := fun x => none })))) ∧ b = b ∧ b_1 = b_1 ∧ bsplit ((↑(Fm.to f) : Int) != IntKind.wrap IntKind.u8 ((16 : Int) + (↑(RS.self r) : Int))) ((Q (T.tup [u8 (0 : Int), bool false]) [(b, Ob.cells (repC r D))] fun x => none) ∧ Q (T.tup [u8 (0 : Int), bool false]) [(b, Ob.cells (repC r D))] fun x => none) ((b_1 = b_1 ∧ b = b ∧ bsplit (Fm.epoch f != View.VS.e (RS.v r)) (Q (T.tup [u8 (0 : Int), bool false]) [(b, Ob.cells (repC r D))] fun x => none) (b_1 = b_1 ∧ bsplit (decide ((↑(Fm.key f) : Int) ≥ (6 : Int))) (Q (T.tup [u8 (0 : Int), bool false]) [(b, Ob.cells (repC r D))] fun x => none) (TWk Try.prog Γ (fin Try.prog Try.f48 [0] Q) [It.code (sub (bd Try.f48) [1, 1])] { fr := frame 47 [(0, T.ptr 0 b 0), (3, T.ptr 1 b_1 0)], ob := [(b, Ob.cells (repC r D))], gl := fun x => none }))) ∧ b = b ∧ b_1 = b_1 ∧ bsplit (Fm.epoch f != View.VS.e (RS.v r)) (Q (T.tup [u8 (0 : Int), bool false]) [(b, Ob.cells (repC r D))] fun x => none) (b_1 = b_1 ∧ bsplit (decide ((↑(Fm.key f) : Int) ≥ (6 : Int))) (Q (T.tup [u8 (0 : Int), bool false]) [(b, Ob.cells (repC r D))] fun x => none) (TWk Try.prog Γ (fin Try.prog Try.f48 [0] Q) [It.code (sub (bd Try.f48) [1, 1])] { fr := frame 47 [(0, T.ptr 0 b 0), (3, T.ptr 1 b_1 0)], ob := [(b, Ob.cells (repC r D))], gl := fun x => none }))))) (by kernel_rfl) ?_
    rw [e1]
    repeat' (first | exact rfl | exact Nat.le_of_ble_eq_true rfl | refine And.intro ?_ ?_ | intro _ | refine bsplit_mk (fun _ => ?_) (fun _ => ?_))
    all_goals first
      | exact in_any b r D hl _ (told_post rfl)
      | exact hQ
      | (exfalso; rename_i p1 p2 p3 p4; simp only [Bool.not_eq_false', bne_eq_false_iff_eq, decide_eq_false_iff_not] at p1 p2 p3 p4; exact hc ⟨p1, by omega, p3, by omega⟩)
      | trace_state
/-! the switch -/
def frK (n : Nat) (f : Fm) : List T := u8 n :: (frC f).tail
theorem frK_eq {n : Nat} {f : Fm} (h : f.kind = n) : frK n f = frC f := by subst h; rfl
def outT (F : List Fm) (E : List Ev) : T := .agg [.sl 34 (Row.aggs frC F), .sl 5 (Row.aggs evC E)]
def outZ : List T := [.v nilS, .v nilS]
def obsN (b bf br bo : Nat) (r : RS) (D : Dr) (n : Nat) (f : Fm) (F : List Fm) (hf : Value) (E : List Ev) (he : Value) : Obs := [(b, .cells (repC r D)), (bf, .cells (frK n f)), (br, .cells [.v nilS, .v nilS]),
  (bo, .cells [.slx 34 4 (Row.aggs frC F) hf, .slx 5 5 (Row.aggs evC E) he]), (0, .room 34 70 (Row.aggs frC F).length hf), (0, .room 5 73 (Row.aggs evC E).length he)]
/-- what one frame does, as a call tells it -/
def onH (b bo : Nat) (o : Rep.Out) (D : Dr) (gl : Glb) : Hint := .plainAt [0] (.call false (Value × Value) (fun _ => True) [0, 3, 4, 5] true (fun _ => .tup []) (fun a => obsR b o.1 D ++ obsO 1 bo o.2.1 a.1 o.2.2 a.2) (fun _ => gl))
def onHg (b bo : Nat) (r : RS) (o : Rep.Out) (D : Dr) (gl : Glb) : Hint := .plainAt [0] (.call false (Value × Value × Glb) (fun a => Own D o.1 a.2.2 ∧ Step gl D r a.2.2 D o.1) [0, 3, 4, 5] true (fun _ => .tup []) (fun a => obsR b o.1 D ++ obsO 1 bo o.2.1 a.1 o.2.2 a.2.1) (fun a => a.2.2))
theorem on_sw (Γ : Ctx) (b bf br bo : Nat) (r : RS) (D : Dr) (f : Fm) (frm : Nat) (lease : Bool) (hk : f.key < 6) (gl : Glb) (ho : Own D r gl) (hl : lim r.v.ms) (hfr : Rep.sender r f = some frm) (ho5 : (Rep.oth r).length ≤ 1000) (Q : T → Obs → Glb → Prop) (hQ : ∀ gl', Own D (Rep.on r f lease).1 gl' → Step gl D r gl' D (Rep.on r f lease).1 → Q (outT (Rep.on r f lease).2.1 (Rep.on r f lease).2.2) (obsR b (Rep.on r f lease).1 D) gl') :
    TWk Try.prog Γ (fin Try.prog Try.f15 [0] Q) [.code (sub (bd Try.f15) [1, 1, 1, 1])] ⟨frame 52 [(0, .ptr 0 b 0), (2, bool lease), (4, .ptr 1 bf 0), (6, .ptr 2 br 0), (7, .ptr 3 bo 0), (8, u8 frm)], obsN b bf br bo r D f.kind f [] nilS [] nilS, gl⟩ := by
  by_cases h1 : f.kind = 1
  · have e : Rep.on r f lease = Rep.onInv r f frm := by unfold Rep.on; rw [hfr]; simp only [h1, if_true]
    rw [e] at hQ
    have ho2 : Own D (Rep.onInv r f frm).1 gl ∧ Step gl D r gl D (Rep.onInv r f frm).1 := by
      unfold Rep.onInv
      split
      · exact ⟨ho, Step.refl _ _ _⟩
      · split
        · have h2 := ho.cell f.key (Rep.inv (r.P f.key).c f.w).1
          exact ⟨(own_way h2.1 f.key).1, h2.2.trans (own_way h2.1 f.key).2⟩
        · exact ho.cell f.key _
    have hQ := hQ gl ho2.1 ho2.2
    have hst := inv_step b bo r D [] nilS [] nilS f frm hk gl ho hl (by decide) (by decide)
    simp only [List.nil_append] at hst
    rw [← frK_eq h1] at hst
    rw [h1]
    generalize Rep.onInv r f frm = o at *
    refine run_sound (⟨fun | 7, 3 => onH b bo o D gl | _, _ => .no, [], fun  | _ => none⟩) 400 (B := bf = bf ∧ bf = bf ∧ (List.all (repC r D) noIx = true ∧ True) ∧ TCalls Try.prog 49 [T.ptr 0 b 0, T.ptr 1 bo 0, T.agg [u8 1, u8 (Fm.frm f), u8 (Fm.to f), u32 (Fm.epoch f), u8 (Fm.key f), u32 (Stp.n (Wrd.s (Fm.w f))), u8 (Stp.b (Wrd.s (Fm.w f))), u8 (Stp.l (Wrd.s (Fm.w f))), bool (Wrd.h (Fm.w f)), T.v (Value.string (Wrd.t (Fm.w f))), bool (Wrd.r (Fm.w f)), bool (Fm.flag f), u8 (Fm.dir f), u8 (0 : Int), u32 (0 : Int), u32 (0 : Int), u8 (0 : Int), u32 (0 : Int), u8 (0 : Int), u8 (0 : Int), u8 (0 : Int), u32 (0 : Int), u32 (0 : Int), u32 (0 : Int), T.v (Value.slice none 0 0), u8 (0 : Int), u8 (0 : Int), u8 (0 : Int), u8 (0 : Int), u8 (0 : Int), u8 (0 : Int), u8 (0 : Int), u8 (0 : Int), T.v (Value.slice none 0 0)], u8 frm] [(b, Ob.cells (repC r D)), (bo, Ob.cells [T.slx 34 2 [] (Value.slice none 0 0), T.slx 5 3 [] (Value.slice none 0 0)]), (0, Ob.room 34 70 0 (Value.slice none 0 0)), (0, Ob.room 5 73 0 (Value.slice none 0 0))] gl (callPost (Hint.call false (Value × Value) (fun x => True) [0, 3, 4, 5] true (fun x => T.tup []) (fun a => obsR b (Prod.fst o) D ++ obsO 1 bo (Prod.fst (Prod.snd o)) (Prod.fst a) (Prod.snd (Prod.snd o)) (Prod.snd a)) fun x => gl)) ∧ ∀ (a : Value × Value), True → (List.all (repC (Prod.fst o) D) noIx = true ∧ True) ∧ bo = bo ∧ (2 = nat_lit 2 ∧ List.all [T.slx 34 4 (List.map (fun x => T.agg (frC x)) (Prod.fst (Prod.snd o))) (Prod.fst a), T.slx 5 5 (List.map (fun x => T.agg (evC x)) (Prod.snd (Prod.snd o))) (Prod.snd a)] T.one = true) ∧ br = br ∧ 0 + nat_lit 2 ≤ 2 ∧ br = br ∧ Q (T.agg [T.sl 34 (List.map (fun x => T.agg (frC x)) (Prod.fst (Prod.snd o))), T.sl 5 (List.map (fun x => T.agg (evC x)) (Prod.snd (Prod.snd o)))]) [(b, Ob.cells (repC (Prod.fst o) D))] gl) (by kernel_rfl) ?_
    repeat' (first | exact rfl | exact Nat.le_of_ble_eq_true rfl | refine And.intro ?_ ?_ | intro _ | refine bsplit_mk (fun _ => ?_) (fun _ => ?_))
    all_goals first
      | exact hst _ fun v w => ⟨(v, w), trivial, rfl, rfl, Nat.le_of_ble_eq_true rfl, fun _ => rfl⟩
      | exact repC_plain _ D
      | exact True.intro
      | exact hQ
      | trace_state
  · by_cases h2 : f.kind = 2
    · cases lease with
      | false =>
        have e : Rep.on r f false = (r, [], []) := by unfold Rep.on; rw [hfr]; simp [h2]
        rw [e] at hQ
        have hQ := hQ gl ho (Step.refl _ _ _)
        rw [h2]
        refine run_sound (⟨fun _ _ => .no, [], fun _ => none⟩) 400 (B := bf = bf ∧ bo = bo ∧ ((2 : Nat) = nat_lit 2 ∧ List.all [T.slx (34 : Nat) (4 : Nat) [] (Value.slice none (0 : Nat) (0 : Nat)), T.slx (5 : Nat) (5 : Nat) [] (Value.slice none (0 : Nat) (0 : Nat))] T.one = true) ∧ br = br ∧ (0 : Nat) + nat_lit 2 ≤ (2 : Nat) ∧ br = br ∧ Q (T.agg [T.sl (34 : Nat) [], T.sl (5 : Nat) []]) [(b, Ob.cells (repC r D))] gl) (by kernel_rfl) ?_
        repeat' (first | exact rfl | exact Nat.le_of_ble_eq_true rfl | refine And.intro ?_ ?_ | intro _ | refine bsplit_mk (fun _ => ?_) (fun _ => ?_))
        exact hQ
      | true =>
        have e : Rep.on r f true = Rep.onAck r f frm := by unfold Rep.on; rw [hfr]; simp [h2]
        rw [e] at hQ
        have hst := ack_step b bo r D [] nilS [] nilS f frm hk gl ho hl (by simp; omega) (by decide)
        simp only [List.nil_append] at hst
        rw [← frK_eq h2] at hst
        rw [h2]
        generalize Rep.onAck r f frm = o at *
        refine run_sound (⟨fun | 10, 3 => onHg b bo r o D gl | _, _ => .no, [], fun  | _ => none⟩) 400 (B := bf = bf ∧ bf = bf ∧ (List.all (repC r D) noIx = true ∧ True) ∧ TCalls Try.prog 50 [T.ptr 0 b 0, T.ptr 1 bo 0, T.agg [u8 2, u8 (Fm.frm f), u8 (Fm.to f), u32 (Fm.epoch f), u8 (Fm.key f), u32 (Stp.n (Wrd.s (Fm.w f))), u8 (Stp.b (Wrd.s (Fm.w f))), u8 (Stp.l (Wrd.s (Fm.w f))), bool (Wrd.h (Fm.w f)), T.v (Value.string (Wrd.t (Fm.w f))), bool (Wrd.r (Fm.w f)), bool (Fm.flag f), u8 (Fm.dir f), u8 (0 : Int), u32 (0 : Int), u32 (0 : Int), u8 (0 : Int), u32 (0 : Int), u8 (0 : Int), u8 (0 : Int), u8 (0 : Int), u32 (0 : Int), u32 (0 : Int), u32 (0 : Int), T.v (Value.slice none 0 0), u8 (0 : Int), u8 (0 : Int), u8 (0 : Int), u8 (0 : Int), u8 (0 : Int), u8 (0 : Int), u8 (0 : Int), u8 (0 : Int), T.v (Value.slice none 0 0)], u8 frm] [(b, Ob.cells (repC r D)), (bo, Ob.cells [T.slx 34 2 [] (Value.slice none 0 0), T.slx 5 3 [] (Value.slice none 0 0)]), (0, Ob.room 34 70 0 (Value.slice none 0 0)), (0, Ob.room 5 73 0 (Value.slice none 0 0))] gl (callPost (Hint.call false (Value × Value × Glb) (fun a => Own D (Prod.fst o) (Prod.snd (Prod.snd a)) ∧ Step gl D r (Prod.snd (Prod.snd a)) D (Prod.fst o)) [0, 3, 4, 5] true (fun x => T.tup []) (fun a => obsR b (Prod.fst o) D ++ obsO 1 bo (Prod.fst (Prod.snd o)) (Prod.fst a) (Prod.snd (Prod.snd o)) (Prod.fst (Prod.snd a))) fun a => Prod.snd (Prod.snd a))) ∧ ∀ (a : Value × Value × Glb), Own D (Prod.fst o) (Prod.snd (Prod.snd a)) ∧ Step gl D r (Prod.snd (Prod.snd a)) D (Prod.fst o) → (List.all (repC (Prod.fst o) D) noIx = true ∧ True) ∧ bo = bo ∧ (2 = nat_lit 2 ∧ List.all [T.slx 34 4 (List.map (fun x => T.agg (frC x)) (Prod.fst (Prod.snd o))) (Prod.fst a), T.slx 5 5 (List.map (fun x => T.agg (evC x)) (Prod.snd (Prod.snd o))) (Prod.fst (Prod.snd a))] T.one = true) ∧ br = br ∧ 0 + nat_lit 2 ≤ 2 ∧ br = br ∧ Q (T.agg [T.sl 34 (List.map (fun x => T.agg (frC x)) (Prod.fst (Prod.snd o))), T.sl 5 (List.map (fun x => T.agg (evC x)) (Prod.snd (Prod.snd o)))]) [(b, Ob.cells (repC (Prod.fst o) D))] (Prod.snd (Prod.snd a))) (by kernel_rfl) ?_
        repeat' (first | exact rfl | exact Nat.le_of_ble_eq_true rfl | refine And.intro ?_ ?_ | intro _ | refine bsplit_mk (fun _ => ?_) (fun _ => ?_))
        all_goals first
          | exact hst _ fun v w gl' g1 g2 => ⟨(v, w, gl'), ⟨g1, g2⟩, rfl, rfl, Nat.le_of_ble_eq_true rfl, fun _ => rfl⟩
          | exact repC_plain _ D
          | exact True.intro
          | (rename_i h; exact hQ _ h.1 h.2)
          | trace_state
    · by_cases h3 : f.kind = 3
      · have e : Rep.on r f lease = (Rep.onVal r f, [], []) := by unfold Rep.on; rw [hfr]; simp [h3]
        rw [e] at hQ
        have ho2 : Own D (Rep.onVal r f) gl ∧ Step gl D r gl D (Rep.onVal r f) := by
          unfold Rep.onVal
          split
          · have h2 := ho.cell f.key (Rep.val (r.P f.key).c f.w.s).1
            exact ⟨(own_rest h2.1 f.key).1, h2.2.trans (own_rest h2.1 f.key).2⟩
          · exact ⟨ho, Step.refl _ _ _⟩
        have hQ := hQ gl ho2.1 ho2.2
        have hst := val_step b r D f hk gl ho
        rw [← frK_eq h3] at hst
        rw [h3]
        generalize Rep.onVal r f = o at *
        refine run_sound (⟨fun | 12, 2 => toldG (.tup []) [0] (obsR b o D) gl | _, _ => .no, [], fun  | _ => none⟩) 400 (B := bf = bf ∧ bf = bf ∧ TCalls Try.prog 51 [T.ptr 0 b 0, T.agg [u8 3, u8 (Fm.frm f), u8 (Fm.to f), u32 (Fm.epoch f), u8 (Fm.key f), u32 (Stp.n (Wrd.s (Fm.w f))), u8 (Stp.b (Wrd.s (Fm.w f))), u8 (Stp.l (Wrd.s (Fm.w f))), bool (Wrd.h (Fm.w f)), T.v (Value.string (Wrd.t (Fm.w f))), bool (Wrd.r (Fm.w f)), bool (Fm.flag f), u8 (Fm.dir f), u8 (0 : Int), u32 (0 : Int), u32 (0 : Int), u8 (0 : Int), u32 (0 : Int), u8 (0 : Int), u8 (0 : Int), u8 (0 : Int), u32 (0 : Int), u32 (0 : Int), u32 (0 : Int), T.v (Value.slice none 0 0), u8 (0 : Int), u8 (0 : Int), u8 (0 : Int), u8 (0 : Int), u8 (0 : Int), u8 (0 : Int), u8 (0 : Int), u8 (0 : Int), T.v (Value.slice none 0 0)]] [(b, Ob.cells (repC r D))] gl (callPost (Hint.call false Unit (fun x => True) [0] true (fun x => T.tup []) (fun x => obsR b o D) fun x => gl)) ∧ ∀ (a : Unit), True → bo = bo ∧ (2 = nat_lit 2 ∧ List.all [T.slx 34 4 [] (Value.slice none 0 0), T.slx 5 5 [] (Value.slice none 0 0)] T.one = true) ∧ br = br ∧ 0 + nat_lit 2 ≤ 2 ∧ br = br ∧ Q (T.agg [T.sl 34 [], T.sl 5 []]) [(b, Ob.cells (repC o D))] gl) (by kernel_rfl) ?_
        repeat' (first | exact rfl | exact Nat.le_of_ble_eq_true rfl | refine And.intro ?_ ?_ | intro _ | refine bsplit_mk (fun _ => ?_) (fun _ => ?_))
        all_goals first
          | exact hst _ (toldG_post rfl)
          | exact hQ
          | trace_state
      · by_cases h4 : f.kind = 4
        · have e : Rep.on r f lease = (r, Rep.onNeed r f frm, []) := by unfold Rep.on; rw [hfr]; simp [h4]
          have hq : Q (outT (Rep.on r f lease).2.1 (Rep.on r f lease).2.2) (obsR b (Rep.on r f lease).1 D) gl := hQ gl (by rw [e]; exact ho) (by rw [e]; exact Step.refl _ _ _)
          have hst := need_any b bo r D [] nilS [] nilS f frm hk gl ho (by decide)
          simp only [List.nil_append] at hst
          rw [← frK_eq h4] at hst
          rw [h4]
          clear hQ
          generalize Rep.on r f lease = o at *
          refine run_sound (⟨fun | 14, 3 => onH b bo o D gl | _, _ => .no, [], fun  | _ => none⟩) 400 (B := bf = bf ∧ bf = bf ∧ (List.all (repC r D) noIx = true ∧ True) ∧ TCalls Try.prog 52 [T.ptr 0 b 0, T.ptr 1 bo 0, T.agg [u8 4, u8 (Fm.frm f), u8 (Fm.to f), u32 (Fm.epoch f), u8 (Fm.key f), u32 (Stp.n (Wrd.s (Fm.w f))), u8 (Stp.b (Wrd.s (Fm.w f))), u8 (Stp.l (Wrd.s (Fm.w f))), bool (Wrd.h (Fm.w f)), T.v (Value.string (Wrd.t (Fm.w f))), bool (Wrd.r (Fm.w f)), bool (Fm.flag f), u8 (Fm.dir f), u8 (0 : Int), u32 (0 : Int), u32 (0 : Int), u8 (0 : Int), u32 (0 : Int), u8 (0 : Int), u8 (0 : Int), u8 (0 : Int), u32 (0 : Int), u32 (0 : Int), u32 (0 : Int), T.v (Value.slice none 0 0), u8 (0 : Int), u8 (0 : Int), u8 (0 : Int), u8 (0 : Int), u8 (0 : Int), u8 (0 : Int), u8 (0 : Int), u8 (0 : Int), T.v (Value.slice none 0 0)], u8 frm] [(b, Ob.cells (repC r D)), (bo, Ob.cells [T.slx 34 2 [] (Value.slice none 0 0), T.slx 5 3 [] (Value.slice none 0 0)]), (0, Ob.room 34 70 0 (Value.slice none 0 0)), (0, Ob.room 5 73 0 (Value.slice none 0 0))] gl (callPost (Hint.call false (Value × Value) (fun x => True) [0, 3, 4, 5] true (fun x => T.tup []) (fun a => obsR b (Prod.fst o) D ++ obsO 1 bo (Prod.fst (Prod.snd o)) (Prod.fst a) (Prod.snd (Prod.snd o)) (Prod.snd a)) fun x => gl)) ∧ ∀ (a : Value × Value), True → (List.all (repC (Prod.fst o) D) noIx = true ∧ True) ∧ bo = bo ∧ (2 = nat_lit 2 ∧ List.all [T.slx 34 4 (List.map (fun x => T.agg (frC x)) (Prod.fst (Prod.snd o))) (Prod.fst a), T.slx 5 5 (List.map (fun x => T.agg (evC x)) (Prod.snd (Prod.snd o))) (Prod.snd a)] T.one = true) ∧ br = br ∧ 0 + nat_lit 2 ≤ 2 ∧ br = br ∧ Q (T.agg [T.sl 34 (List.map (fun x => T.agg (frC x)) (Prod.fst (Prod.snd o))), T.sl 5 (List.map (fun x => T.agg (evC x)) (Prod.snd (Prod.snd o)))]) [(b, Ob.cells (repC (Prod.fst o) D))] gl) (by kernel_rfl) ?_
          repeat' (first | exact rfl | exact Nat.le_of_ble_eq_true rfl | refine And.intro ?_ ?_ | intro _ | refine bsplit_mk (fun _ => ?_) (fun _ => ?_))
          all_goals first
            | exact hst _ fun v => ⟨(v, nilS), trivial, rfl, by rw [e], Nat.le_of_ble_eq_true rfl, fun _ => rfl⟩
            | exact repC_plain _ D
            | exact True.intro
            | exact hq
            | trace_state
        · by_cases h5 : f.kind = 5
          · have e : Rep.on r f lease = ((Rep.onGive r f).1, [], (Rep.onGive r f).2) := by unfold Rep.on; rw [hfr]; simp [h5]
            have hst := give_step b bo r D [] nilS [] nilS f hk gl ho (by decide)
            simp only [List.nil_append] at hst
            rw [← frK_eq h5] at hst
            rw [h5]
            generalize Rep.on r f lease = o at *
            generalize Rep.onGive r f = oo at *
            refine run_sound (⟨fun | 16, 2 => onHg b bo r o D gl | _, _ => .no, [], fun  | _ => none⟩) 400 (B := bf = bf ∧ bf = bf ∧ (List.all (repC r D) noIx = true ∧ True) ∧ TCalls Try.prog 53 [T.ptr 0 b 0, T.ptr 1 bo 0, T.agg [u8 5, u8 (Fm.frm f), u8 (Fm.to f), u32 (Fm.epoch f), u8 (Fm.key f), u32 (Stp.n (Wrd.s (Fm.w f))), u8 (Stp.b (Wrd.s (Fm.w f))), u8 (Stp.l (Wrd.s (Fm.w f))), bool (Wrd.h (Fm.w f)), T.v (Value.string (Wrd.t (Fm.w f))), bool (Wrd.r (Fm.w f)), bool (Fm.flag f), u8 (Fm.dir f), u8 (0 : Int), u32 (0 : Int), u32 (0 : Int), u8 (0 : Int), u32 (0 : Int), u8 (0 : Int), u8 (0 : Int), u8 (0 : Int), u32 (0 : Int), u32 (0 : Int), u32 (0 : Int), T.v (Value.slice none 0 0), u8 (0 : Int), u8 (0 : Int), u8 (0 : Int), u8 (0 : Int), u8 (0 : Int), u8 (0 : Int), u8 (0 : Int), u8 (0 : Int), T.v (Value.slice none 0 0)]] [(b, Ob.cells (repC r D)), (bo, Ob.cells [T.slx 34 2 [] (Value.slice none 0 0), T.slx 5 3 [] (Value.slice none 0 0)]), (0, Ob.room 34 70 0 (Value.slice none 0 0)), (0, Ob.room 5 73 0 (Value.slice none 0 0))] gl (callPost (Hint.call false (Value × Value × Glb) (fun a => Own D (Prod.fst o) (Prod.snd (Prod.snd a)) ∧ Step gl D r (Prod.snd (Prod.snd a)) D (Prod.fst o)) [0, 3, 4, 5] true (fun x => T.tup []) (fun a => obsR b (Prod.fst o) D ++ obsO 1 bo (Prod.fst (Prod.snd o)) (Prod.fst a) (Prod.snd (Prod.snd o)) (Prod.fst (Prod.snd a))) fun a => Prod.snd (Prod.snd a))) ∧ ∀ (a : Value × Value × Glb), Own D (Prod.fst o) (Prod.snd (Prod.snd a)) ∧ Step gl D r (Prod.snd (Prod.snd a)) D (Prod.fst o) → (List.all (repC (Prod.fst o) D) noIx = true ∧ True) ∧ bo = bo ∧ (2 = nat_lit 2 ∧ List.all [T.slx 34 4 (List.map (fun x => T.agg (frC x)) (Prod.fst (Prod.snd o))) (Prod.fst a), T.slx 5 5 (List.map (fun x => T.agg (evC x)) (Prod.snd (Prod.snd o))) (Prod.fst (Prod.snd a))] T.one = true) ∧ br = br ∧ 0 + nat_lit 2 ≤ 2 ∧ br = br ∧ Q (T.agg [T.sl 34 (List.map (fun x => T.agg (frC x)) (Prod.fst (Prod.snd o))), T.sl 5 (List.map (fun x => T.agg (evC x)) (Prod.snd (Prod.snd o)))]) [(b, Ob.cells (repC (Prod.fst o) D))] (Prod.snd (Prod.snd a))) (by kernel_rfl) ?_
            repeat' (first | exact rfl | exact Nat.le_of_ble_eq_true rfl | refine And.intro ?_ ?_ | intro _ | refine bsplit_mk (fun _ => ?_) (fun _ => ?_))
            all_goals first
              | exact hst _ fun w gl' g1 g2 => ⟨(nilS, w, gl'), by rw [e]; exact ⟨g1, g2⟩, rfl, by rw [e], Nat.le_of_ble_eq_true rfl, fun _ => rfl⟩
              | exact repC_plain _ D
              | exact True.intro
              | (rename_i h; exact hQ _ h.1 h.2)
              | trace_state
          · have e : Rep.on r f lease = (r, [], []) := by unfold Rep.on; rw [hfr]; simp [h1, h2, h3, h4, h5]
            rw [e] at hQ
            have hQ := hQ gl ho (Step.refl _ _ _)
            refine run_sound (⟨fun _ _ => .no, [], fun _ => none⟩) 400 (B := bf = bf ∧ bsplit ((↑(Fm.kind f) : Int) == (1 : Int)) (bf = bf ∧ False) (bsplit ((↑(Fm.kind f) : Int) == (2 : Int)) (bsplit lease (bf = bf ∧ False) (bo = bo ∧ (2 = nat_lit 2 ∧ List.all [T.slx 34 4 [] (Value.slice none 0 0), T.slx 5 5 [] (Value.slice none 0 0)] T.one = true) ∧ br = br ∧ 0 + nat_lit 2 ≤ 2 ∧ br = br ∧ Q (T.agg [T.sl 34 [], T.sl 5 []]) [(b, Ob.cells (repC r D))] gl)) (bsplit ((↑(Fm.kind f) : Int) == (3 : Int)) (bf = bf ∧ False) (bsplit ((↑(Fm.kind f) : Int) == (4 : Int)) (bf = bf ∧ False) (bsplit ((↑(Fm.kind f) : Int) == (5 : Int)) (bf = bf ∧ False) (bo = bo ∧ (2 = nat_lit 2 ∧ List.all [T.slx 34 4 [] (Value.slice none 0 0), T.slx 5 5 [] (Value.slice none 0 0)] T.one = true) ∧ br = br ∧ 0 + nat_lit 2 ≤ 2 ∧ br = br ∧ Q (T.agg [T.sl 34 [], T.sl 5 []]) [(b, Ob.cells (repC r D))] gl)))))) (by kernel_rfl) ?_
            repeat' (first | exact rfl | exact Nat.le_of_ble_eq_true rfl | refine And.intro ?_ ?_ | intro _ | refine bsplit_mk (fun _ => ?_) (fun _ => ?_))
            all_goals first
              | exact hQ
              | (exfalso; simp only [beq_iff_eq] at *; omega)
              | trace_state
theorem imp_out {ts : List T} {gl : Glb} (x y z : Nat × Ob) (bo : Nat) : Imp ts [x, y, z, (bo, .cells [.v nilS, .v nilS])] gl ts [x, y, z, (bo, .cells [.slx 34 4 [] nilS, .slx 5 5 [] nilS]), (0, .room 34 70 0 nilS), (0, .room 5 73 0 nilS)] gl := by
  refine (Imp.room 34 70).trans ?_
  refine (Imp.room 5 73).trans ?_
  refine (Imp.cell (i := 3) (b := bo) (j := 0) 34 4 rfl rfl).trans ?_
  exact Imp.cell (i := 3) (b := bo) (j := 1) (cs := [.slx 34 4 [] nilS, .v nilS]) 5 5 rfl rfl
theorem on_none (Γ : Ctx) (b bf br bo : Nat) (r : RS) (D : Dr) (f : Fm) (lease : Bool) (gl : Glb) (hl : lim r.v.ms) (hs : Rep.sender r f = none) (Q : T → Obs → Glb → Prop) (hQ : Q (outT [] []) (obsR b r D) gl) :
    TWk Try.prog Γ (fin Try.prog Try.f15 [0] Q) [.code (sub (bd Try.f15) [1, 1])] ⟨frame 52 [(0, .ptr 0 b 0), (2, bool lease), (4, .ptr 1 bf 0), (6, .ptr 2 br 0), (7, .ptr 3 bo 0)], obsN b bf br bo r D f.kind f [] nilS [] nilS, gl⟩ := by
  have hsn := sender_any b r D f hl
  rw [hs] at hsn
  refine run_sound (⟨fun | 2, 2 => .plainAt [0] (told (.tup [u8 0, bool false]) [0] (obsR b r D)) | _, _ => .no, [], fun  | _ => none⟩) 400 (B := bf = bf ∧ (List.all (repC r D) noIx = true ∧ True) ∧ TCalls Try.prog 48 [T.ptr 0 b 0, T.agg [u8 (Fm.kind f), u8 (Fm.frm f), u8 (Fm.to f), u32 (Fm.epoch f), u8 (Fm.key f), u32 (Stp.n (Wrd.s (Fm.w f))), u8 (Stp.b (Wrd.s (Fm.w f))), u8 (Stp.l (Wrd.s (Fm.w f))), bool (Wrd.h (Fm.w f)), T.v (Value.string (Wrd.t (Fm.w f))), bool (Wrd.r (Fm.w f)), bool (Fm.flag f), u8 (Fm.dir f), u8 (0 : Int), u32 (0 : Int), u32 (0 : Int), u8 (0 : Int), u32 (0 : Int), u8 (0 : Int), u8 (0 : Int), u8 (0 : Int), u32 (0 : Int), u32 (0 : Int), u32 (0 : Int), T.v (Value.slice none 0 0), u8 (0 : Int), u8 (0 : Int), u8 (0 : Int), u8 (0 : Int), u8 (0 : Int), u8 (0 : Int), u8 (0 : Int), u8 (0 : Int), T.v (Value.slice none 0 0)]] [(b, Ob.cells (repC r D))] (fun x => none) (callPost (Hint.call false Unit (fun x => True) [0] false (fun x => T.tup [u8 (0 : Int), bool false]) (fun x => obsR b r D) fun x => none_)) ∧ ∀ (a : Unit), True → (List.all (repC r D) noIx = true ∧ True) ∧ bo = bo ∧ (2 = nat_lit 2 ∧ List.all [T.slx 34 4 [] (Value.slice none 0 0), T.slx 5 5 [] (Value.slice none 0 0)] T.one = true) ∧ br = br ∧ 0 + nat_lit 2 ≤ 2 ∧ br = br ∧ Q (T.agg [T.sl 34 [], T.sl 5 []]) [(b, Ob.cells (repC r D))] gl) (by kernel_rfl) ?_
  repeat' (first | exact rfl | exact Nat.le_of_ble_eq_true rfl | refine And.intro ?_ ?_ | intro _ | refine bsplit_mk (fun _ => ?_) (fun _ => ?_))
  all_goals first
    | exact hsn _ (told_post rfl)
    | exact repC_plain _ D
    | exact True.intro
    | exact hQ
    | trace_state
theorem on_some (Γ : Ctx) (b bf br bo : Nat) (r : RS) (D : Dr) (f : Fm) (frm : Nat) (lease : Bool) (gl : Glb) (ho : Own D r gl) (hl : lim r.v.ms) (hs : Rep.sender r f = some frm) (ho5 : (Rep.oth r).length ≤ 1000) (Q : T → Obs → Glb → Prop) (hQ : ∀ gl', Own D (Rep.on r f lease).1 gl' → Step gl D r gl' D (Rep.on r f lease).1 → Q (outT (Rep.on r f lease).2.1 (Rep.on r f lease).2.2) (obsR b (Rep.on r f lease).1 D) gl') :
    TWk Try.prog Γ (fin Try.prog Try.f15 [0] Q) [.code (sub (bd Try.f15) [1, 1])] ⟨frame 52 [(0, .ptr 0 b 0), (2, bool lease), (4, .ptr 1 bf 0), (6, .ptr 2 br 0), (7, .ptr 3 bo 0)], obsN b bf br bo r D f.kind f [] nilS [] nilS, gl⟩ := by
  have hsn := sender_any b r D f hl
  rw [hs] at hsn
  have hk : f.key < 6 := by
    unfold Rep.sender at hs
    split at hs
    · rename_i h; exact h.2.2.2
    · cases hs
  have sw := on_sw Γ b bf br bo r D f frm lease hk gl ho hl hs ho5 Q hQ
  clear hQ
  refine run_sound (⟨fun | 2, 2 => .plainAt [0] (told (.tup [u8 frm, bool true]) [0] (obsR b r D)) | _, _ => .no, [((0, 5), ([0, 2, 4, 6, 7, 8], 6))], fun  | _ => none⟩) 400 (B := bf = bf ∧ (List.all (repC r D) noIx = true ∧ True) ∧ TCalls Try.prog 48 [T.ptr 0 b 0, T.agg [u8 (Fm.kind f), u8 (Fm.frm f), u8 (Fm.to f), u32 (Fm.epoch f), u8 (Fm.key f), u32 (Stp.n (Wrd.s (Fm.w f))), u8 (Stp.b (Wrd.s (Fm.w f))), u8 (Stp.l (Wrd.s (Fm.w f))), bool (Wrd.h (Fm.w f)), T.v (Value.string (Wrd.t (Fm.w f))), bool (Wrd.r (Fm.w f)), bool (Fm.flag f), u8 (Fm.dir f), u8 (0 : Int), u32 (0 : Int), u32 (0 : Int), u8 (0 : Int), u32 (0 : Int), u8 (0 : Int), u8 (0 : Int), u8 (0 : Int), u32 (0 : Int), u32 (0 : Int), u32 (0 : Int), T.v (Value.slice none 0 0), u8 (0 : Int), u8 (0 : Int), u8 (0 : Int), u8 (0 : Int), u8 (0 : Int), u8 (0 : Int), u8 (0 : Int), u8 (0 : Int), T.v (Value.slice none 0 0)]] [(b, Ob.cells (repC r D))] (fun x => none) (callPost (Hint.call false Unit (fun x => True) [0] false (fun x => T.tup [u8 (↑frm : Int), bool true]) (fun x => obsR b r D) fun x => none_)) ∧ ∀ (a : Unit), True → (List.all (repC r D) noIx = true ∧ True) ∧ TWk Try.prog Γ (fin Try.prog Try.f15 [0] Q) [It.code (sub (bd Try.f15) [1, 1, 1, 1])] { fr := frame 52 [(0, T.ptr 0 b 0), (2, bool lease), (4, T.ptr 1 bf 0), (6, T.ptr 2 br 0), (7, T.ptr 3 bo 0), (8, u8 frm)], ob := [(b, Ob.cells (repC r D)), (bf, Ob.cells [u8 (Fm.kind f), u8 (Fm.frm f), u8 (Fm.to f), u32 (Fm.epoch f), u8 (Fm.key f), u32 (Stp.n (Wrd.s (Fm.w f))), u8 (Stp.b (Wrd.s (Fm.w f))), u8 (Stp.l (Wrd.s (Fm.w f))), bool (Wrd.h (Fm.w f)), T.v (Value.string (Wrd.t (Fm.w f))), bool (Wrd.r (Fm.w f)), bool (Fm.flag f), u8 (Fm.dir f), u8 (0 : Int), u32 (0 : Int), u32 (0 : Int), u8 (0 : Int), u32 (0 : Int), u8 (0 : Int), u8 (0 : Int), u8 (0 : Int), u32 (0 : Int), u32 (0 : Int), u32 (0 : Int), T.v (Value.slice none 0 0), u8 (0 : Int), u8 (0 : Int), u8 (0 : Int), u8 (0 : Int), u8 (0 : Int), u8 (0 : Int), u8 (0 : Int), u8 (0 : Int), T.v (Value.slice none 0 0)]), (br, Ob.cells [T.v (Value.slice none 0 0), T.v (Value.slice none 0 0)]), (bo, Ob.cells [T.slx 34 4 [] (Value.slice none 0 0), T.slx 5 5 [] (Value.slice none 0 0)]), (0, Ob.room 34 70 0 (Value.slice none 0 0)), (0, Ob.room 5 73 0 (Value.slice none 0 0))], gl := gl }) (by kernel_rfl) ?_
  repeat' (first | exact rfl | exact Nat.le_of_ble_eq_true rfl | refine And.intro ?_ ?_ | intro _ | refine bsplit_mk (fun _ => ?_) (fun _ => ?_))
  all_goals first
    | exact hsn _ (told_post rfl)
    | exact repC_plain _ D
    | exact True.intro
    | exact sw
    | trace_state
theorem on_any (b : Nat) (r : RS) (D : Dr) (f : Fm) (lease : Bool) (gl : Glb) (ho : Own D r gl) (hl : lim r.v.ms) (ho5 : (Rep.oth r).length ≤ 1000) (Q : T → Obs → Glb → Prop) (hQ : ∀ gl', Own D (Rep.on r f lease).1 gl' → Step gl D r gl' D (Rep.on r f lease).1 → Q (outT (Rep.on r f lease).2.1 (Rep.on r f lease).2.2) (obsR b (Rep.on r f lease).1 D) gl') :
    TCalls Try.prog 15 [.ptr 0 b 0, .agg (frC f), bool lease] (obsR b r D) gl Q := by
  have st : ∀ Γ bf br bo, TWk Try.prog Γ (fin Try.prog Try.f15 [0] Q) [.code (sub (bd Try.f15) [1, 1])] ⟨frame 52 [(0, .ptr 0 b 0), (2, bool lease), (4, .ptr 1 bf 0), (6, .ptr 2 br 0), (7, .ptr 3 bo 0)], [(b, .cells (repC r D)), (bf, .cells (frK f.kind f)), (br, .cells [.v nilS, .v nilS]), (bo, .cells [.v nilS, .v nilS])], gl⟩ := fun Γ bf br bo => by
    refine TWk.imp (s' := ⟨_, obsN b bf br bo r D f.kind f [] nilS [] nilS, gl⟩) ?_ (imp_out (b, .cells (repC r D)) (bf, .cells (frK f.kind f)) (br, .cells [.v nilS, .v nilS]) bo)
    cases hs : Rep.sender r f with
    | none =>
      have e : Rep.on r f lease = (r, [], []) := by unfold Rep.on; rw [hs]
      rw [e] at hQ
      exact on_none Γ b bf br bo r D f lease gl hl hs Q (hQ gl ho (Step.refl _ _ _))
    | some frm => exact on_some Γ b bf br bo r D f frm lease gl ho hl hs ho5 Q hQ
  clear hQ
  refine TCalls.of Try.func15 rfl (CanCall.of Try.func15 rfl (by decide)) [0] fun Γ => ?_
  refine run_sound (⟨fun _ _ => .no, [((0, 2), ([0, 2, 4, 6, 7], 4))], fun _ => none⟩) 400 (B := ∀ (b_1 b_2 b_3 : Nat), TWk Try.prog Γ (fin Try.prog Try.f15 [0] Q) [It.code (sub (bd Try.f15) [1, 1])] { fr := frame 52 [(0, T.ptr 0 b 0), (2, bool lease), (4, T.ptr 1 b_1 0), (6, T.ptr 2 b_2 0), (7, T.ptr 3 b_3 0)], ob := [(b, Ob.cells (repC r D)), (b_1, Ob.cells [u8 (Fm.kind f), u8 (Fm.frm f), u8 (Fm.to f), u32 (Fm.epoch f), u8 (Fm.key f), u32 (Stp.n (Wrd.s (Fm.w f))), u8 (Stp.b (Wrd.s (Fm.w f))), u8 (Stp.l (Wrd.s (Fm.w f))), bool (Wrd.h (Fm.w f)), T.v (Value.string (Wrd.t (Fm.w f))), bool (Wrd.r (Fm.w f)), bool (Fm.flag f), u8 (Fm.dir f), u8 (0 : Int), u32 (0 : Int), u32 (0 : Int), u8 (0 : Int), u32 (0 : Int), u8 (0 : Int), u8 (0 : Int), u8 (0 : Int), u32 (0 : Int), u32 (0 : Int), u32 (0 : Int), T.v (Value.slice none 0 0), u8 (0 : Int), u8 (0 : Int), u8 (0 : Int), u8 (0 : Int), u8 (0 : Int), u8 (0 : Int), u8 (0 : Int), u8 (0 : Int), T.v (Value.slice none 0 0)]), (b_2, Ob.cells [T.v (Value.slice none 0 0), T.v (Value.slice none 0 0)]), (b_3, Ob.cells [T.v (Value.slice none 0 0), T.v (Value.slice none 0 0)])], gl := gl }) (by kernel_rfl) ?_
  repeat' (first | exact rfl | exact Nat.le_of_ble_eq_true rfl | refine And.intro ?_ ?_ | intro _ | refine bsplit_mk (fun _ => ?_) (fun _ => ?_))
  all_goals first
    | exact st _ _ _ _
    | trace_state
end X20
end Go.Proofs.Ytafcbipmmjegcaa.Vm
