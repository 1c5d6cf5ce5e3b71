/- Texts of this claim: AcO. -/
import Derived.Test.YtcmcmafeaabjmaaMg15
import Derived.Test.YtcmcmafeaabjmaaMg26
namespace Go.Proofs.Ytcmcmafeaabjmaa.Vm
open Go Go.RowKit
set_option maxRecDepth 100000
noncomputable abbrev kAcO0 (l : List Nat) : It := .code (sub (bd Try.f3) l)
noncomputable abbrev wAcO1 (Γ : Ctx) (Q : T → Obs → Glb → Prop) : List It → S → Prop := TWk Try.prog Γ (fin Try.prog Try.f3 [] Q)
namespace X11
open Acp (En AS Rc blw VOk IsE XOk Stp)
open View (VS Mem)
open X5 (viewC mems memC firstM firstL)
open Jrn (Dk)
open X9 (dkC obsK dkH dk_post)
open X10 (strs jC obsJ)
structure Ac where
  what : Int
  n : Nat
  b : Nat
  slot : Nat
  c : Nat
def aC (a : Ac) : List T := [int a.what, u32 a.n, u8 a.b, u32 a.slot, u32 a.c]
structure Ac.Ok (a : Ac) : Prop where
  n : a.n < 4294967296
  b : a.b < 256
  slot : a.slot < 4294967296
  c : a.c < 4294967296
def toY (a : Ac) : En := ⟨a.slot, a.n, a.b, a.c % 256, a.c / 8 % 256, a.c / 64 % 256, a.c, a.c / 2⟩
theorem toY_ok {a : Ac} (h : a.Ok) : (toY a).Ok := ⟨h.slot, h.n, h.b, Nat.mod_lt _ (by decide), Nat.mod_lt _ (by decide), Nat.mod_lt _ (by decide), h.c, by have := h.c; show a.c / 2 < _; omega⟩
theorem pd_post {db jb ab mb : Nat} {y : T} {d : Dk} {l : List (List UInt8)} {x : AS} (hd : Value) (es : Array MapEntry) (ck : Nat) : callPost (acPd db jb ab mb y d l x) y (obsA db jb ab mb d l hd false x es ck) none_ := ⟨(hd, es, ck), trivial, rfl, rfl, Nat.le_of_ble_eq_true rfl, fun h => by cases h⟩
structure LOk (l : List (List UInt8)) (i : Nat) : Prop where
  v : Jrn.Vs l
  n : (Jrn.flat l).length ≤ 70 + 70 * i
theorem LOk.add {l : List (List UInt8)} {i : Nat} (h : LOk l i) (hi : i ≤ 100) {r : Rc} (hr : r.Ok) : LOk (l ++ [r.b]) (i + 1) := by
  have h1 := h.n
  obtain ⟨a, b⟩ := vs_add h.v hr (by omega)
  exact ⟨a, by omega⟩
theorem LOk.succ {l : List (List UInt8)} {i : Nat} (h : LOk l i) : LOk l (i + 1) := ⟨h.v, by have := h.n; omega⟩
theorem LOk.room {l : List (List UInt8)} {i : Nat} (h : LOk l i) (hi : i ≤ 100) : (Jrn.flat l).length + 70 ≤ 1048576 := by have := h.n; omega
section
variable (db jb ab mb : Nat) (l : List (List UInt8)) (hd : Value) (x : AS) (es : Array MapEntry) (ck : Nat)
theorem prep_all (i : Nat) (hi : i ≤ 100) (hl : LOk l i) (hx : XOk x) (a : Ac) (ha : a.Ok) :
    (∃ f : Int, f ≠ 0 ∧ (f = 9 ∧ a.slot < x.low ∨ f = 8 ∧ ¬ a.slot < x.low ∧ blw a.n a.b x.pn x.pb = true) ∧ TCalls Try.prog 15 [.ptr 3 ab 0, .agg [u32 a.n, u8 a.b], u32 a.slot] (obsA db jb ab mb (Jrn.jd l) l hd false x es ck) none_ (callPost (acPd db jb ab mb (.tup [.v nilS, int f]) (Jrn.jd l) l x))) ∨
    (¬ a.slot < x.low ∧ blw a.n a.b x.pn x.pb = false ∧ ∃ l2, LOk l2 (i + 1) ∧ (l2 = l ∧ Acp.promise x a.n a.b = x ∨ l2 = l ++ [(Rc.prom a.n a.b).b]) ∧ ∀ L, IsE x.E a.slot L → TCalls Try.prog 15 [.ptr 3 ab 0, .agg [u32 a.n, u8 a.b], u32 a.slot] (obsA db jb ab mb (Jrn.jd l) l hd false x es ck) none_ (callPost (acPd db jb ab mb (.tup [.sl 8 (Row.aggs enC L), int 0]) (Jrn.jd l2) l2 (Acp.promise x a.n a.b)))) := by
  by_cases h1 : a.slot < x.low
  · exact .inl ⟨9, by decide, .inl ⟨rfl, h1⟩, prep_low db jb ab mb l hd x es ck a.n a.b a.slot h1 _ (pd_post hd es ck)⟩
  · cases hb : blw a.n a.b x.pn x.pb with
    | true => exact .inl ⟨8, by decide, .inr ⟨rfl, h1, rfl⟩, prep_old db jb ab mb l hd x es ck a.n a.b a.slot h1 hb _ (pd_post hd es ck)⟩
    | false =>
      right
      refine ⟨h1, rfl, ?_⟩
      cases hb2 : blw x.pn x.pb a.n a.b with
      | true =>
        refine ⟨_, hl.add hi (r := .prom a.n a.b) ⟨ha.n, ha.b⟩, .inr rfl, fun L hL => ?_⟩
        exact prep_new db jb ab mb l hd x es ck hl.v (hl.room hi) a.n a.b a.slot ha.n ha.b h1 hb hb2 L _ (fun hd es ck Q' hq => entries_any db jb ab mb _ _ hd false _ es ck (hx.promise ha.n ha.b) a.slot L (by rw [(Acp.promise_E x a.n a.b).1]; exact hL) Q' hq) fun hd es ck => pd_post hd es ck
      | false =>
        have e : Acp.promise x a.n a.b = x := by unfold Acp.promise; rw [hb2]; rfl
        refine ⟨l, hl.succ, .inl ⟨rfl, e⟩, fun L hL => ?_⟩
        rw [e]
        exact prep_same db jb ab mb l hd x es ck a.n a.b a.slot h1 hb hb2 L _ (fun Q' hq => entries_any db jb ab mb _ _ hd false x es ck hx a.slot L hL Q' hq) (pd_post hd es ck)
theorem acc_all (i : Nat) (hi : i ≤ 100) (hl : LOk l i) (a : Ac) (ha : a.Ok) :
    (∃ f : Int, f ≠ 0 ∧ (f = 9 ∧ a.slot < x.low ∨ f = 6 ∧ ¬ a.slot < x.low ∧ x.low + 16 ≤ a.slot ∨ f = 8 ∧ ¬ a.slot < x.low ∧ a.slot < x.low + 16 ∧ blw a.n a.b x.pn x.pb = true) ∧ TCalls Try.prog 17 [.ptr 3 ab 0, .agg [u32 a.n, u8 a.b], u32 a.slot, cmd a.c] (obsA db jb ab mb (Jrn.jd l) l hd false x es ck) none_ (callPost (acPd db jb ab mb (int f) (Jrn.jd l) l x))) ∨
    (¬ a.slot < x.low ∧ a.slot < x.low + 16 ∧ blw a.n a.b x.pn x.pb = false ∧ LOk (l ++ [(Rc.acc (toY a)).b]) (i + 1) ∧ TCalls Try.prog 17 [.ptr 3 ab 0, .agg [u32 a.n, u8 a.b], u32 a.slot, cmd a.c] (obsA db jb ab mb (Jrn.jd l) l hd false x es ck) none_ (callPost (acPd db jb ab mb (int 0) (Jrn.jd (l ++ [(Rc.acc (toY a)).b])) (l ++ [(Rc.acc (toY a)).b]) (Acp.accept x (toY a))))) := by
  by_cases h1 : a.slot < x.low
  · exact .inl ⟨9, by decide, .inl ⟨rfl, h1⟩, acc_low db jb ab mb l hd x es ck a.n a.b a.slot _ _ _ _ _ h1 _ (pd_post hd es ck)⟩
  · by_cases h2 : a.slot < x.low + 16
    · cases hb : blw a.n a.b x.pn x.pb with
      | true => exact .inl ⟨8, by decide, .inr (.inr ⟨rfl, h1, h2, rfl⟩), acc_old db jb ab mb l hd x es ck a.n a.b a.slot _ _ _ _ _ h1 h2 ha.slot hb _ (pd_post hd es ck)⟩
      | false => exact .inr ⟨h1, h2, rfl, hl.add hi (toY_ok ha), acc_new db jb ab mb l hd x es ck hl.v (hl.room hi) (toY a) (toY_ok ha) h1 h2 hb _ fun hd es ck => pd_post hd es ck⟩
    · exact .inl ⟨6, by decide, .inr (.inl ⟨rfl, h1, by omega⟩), acc_full db jb ab mb l hd x es ck a.n a.b a.slot _ _ _ _ _ h1 (by omega) ha.slot _ (pd_post hd es ck)⟩
theorem trunc_all (i : Nat) (hi : i ≤ 100) (hl : LOk l i) (a : Ac) (ha : a.Ok) :
    ∃ l2 x2, LOk l2 (i + 1) ∧ (a.slot ≤ x.low ∧ l2 = l ∧ x2 = x ∨ x.low < a.slot ∧ l2 = l ++ [(Rc.cut a.slot (vw a.c)).b] ∧ x2 = Acp.cut x a.slot (vw a.c)) ∧ TCalls Try.prog 19 [.ptr 3 ab 0, u32 a.slot, .agg (viewC (vw a.c))] (obsA db jb ab mb (Jrn.jd l) l hd false x es ck) none_ (callPost (acPd db jb ab mb (int 0) (Jrn.jd l2) l2 x2)) := by
  have hv := vw_ok a.c ha.c
  by_cases h : x.low < a.slot
  · exact ⟨_, _, hl.add hi (r := .cut a.slot (vw a.c)) ⟨ha.slot, hv⟩, .inr ⟨h, rfl, rfl⟩, trunc_new db jb ab mb l hd x es ck hl.v (hl.room hi) a.slot (vw a.c) hv ha.slot h _ fun hd es ck => pd_post hd es ck⟩
  · exact ⟨l, x, hl.succ, .inl ⟨by omega, rfl, rfl⟩, trunc_none db jb ab mb l hd x es ck a.slot (vw a.c) hv.len (by omega) _ (pd_post hd es ck)⟩
end
theorem k_round (db jb ab mb : Nat) (l : List (List UInt8)) (hd : Value) (x : AS) (es : Array MapEntry) (ck : Nat) (Γ : Ctx) (Q : T → Obs → Glb → Prop) (E : List T) (i : Nat) (A : List Ac) (hE : E = Row.aggs aC A) (hA : ∀ a ∈ A, a.Ok) (hl : LOk l i) (hx : XOk x) (hi : i < A.length) (h50 : i < 50)
    (nx : ∀ (l : List (List UInt8)) (hd : Value) (x : AS) (es : Array MapEntry) (ck : Nat), LOk l (i + 1) → XOk x → wAcO1 Γ Q [kAcO0 [1,1,1,1,1,1,0,1,0], .blk 0, kAcO0 [1,1,1,1,1,1,1]] ⟨frame 203 [(0, .sl 5 E), (4, .ptr 3 ab 0), (6, int (i + 1 : Nat))], obsA db jb ab mb (Jrn.jd l) l hd false x es ck, none_⟩) : wAcO1 Γ Q [kAcO0 [1,1,1,1,1,1,0,1,0], .blk 0, kAcO0 [1,1,1,1,1,1,1]] ⟨frame 203 [(0, .sl 5 E), (4, .ptr 3 ab 0), (6, int i)], obsA db jb ab mb (Jrn.jd l) l hd false x es ck, none_⟩ := by
  have hlen : E.length = A.length := by rw [hE, Row.aggs_len]
  have ha := hA A[i] (List.getElem_mem hi)
  have hat : E[((i : Nat) : Int).toNat]? = some (.agg (aC A[i])) := by rw [hE, Int.toNat_natCast]; exact Row.aggs_at (List.getElem?_eq_getElem hi)
  generalize A[i] = a at *
  obtain ⟨L, hL⟩ := hx.ents 0
  have hL16 := hx.len hL
  have hv := hx.v.len
  obtain ⟨r, kd, hr, hr1, hr2, hk, hk3⟩ := turn_at a.what 3 (by decide) (by decide)
  refine k_front db jb ab mb l hd x es ck Γ Q E i a.what a.n a.b a.slot a.c kd r hr hr1 hr2 hk (by omega) h50 hat L (fun Q' hq => entries_any db jb ab mb _ _ hd false x es ck hx 0 L hL Q' hq) (by omega) ?_
  intro pn pb lw EL VC b7 b8 b9 b12 e1 e2 e3 e4 e5
  have h3 : kd = 0 ∨ kd = 1 ∨ kd = 2 := by omega
  rcases h3 with rfl | rfl | rfl
  · rcases prep_all db jb ab mb l hd x es ck i (by omega) hl hx a ha with ⟨f, hf, -, hp⟩ | ⟨g1, g2, l2, hl2, -, hp⟩
    · exact k_prep1 db jb ab mb l hd x es ck Γ Q E i a.what a.n a.b a.slot a.c EL pn pb lw VC b7 b8 b9 b12 l x _ f hf hp fun hd es ck =>
        k_rest db jb ab mb l hd x es ck Γ Q E i a.what a.n a.b a.slot a.c x L hL hL16 hx 0 false (Stp.same x _ _) h50 pn pb lw EL VC b7 b8 b9 b12 e1 e2 e3 e4 (nx l hd x es ck hl.succ hx)
    · obtain ⟨L3, hL3⟩ := hx.ents a.slot
      obtain ⟨p1, p2⟩ := Acp.promise_to x a.n a.b g2
      exact k_prep0 db jb ab mb l hd x es ck Γ Q E i a.what a.n a.b a.slot a.c EL pn pb lw VC b7 b8 b9 b12 l2 _ _ (hp L3 hL3) (by rw [e1, e2]; exact g2) p1 p2 fun hd es ck =>
        k_rest db jb ab mb l2 hd _ es ck Γ Q E i a.what a.n a.b a.slot a.c x L hL hL16 (hx.promise ha.n ha.b) 0 false (Stp.promise x _ _ _ _) h50 pn pb lw EL VC b7 b8 b9 b12 e1 e2 e3 e4 (nx l2 hd _ es ck hl2 (hx.promise ha.n ha.b))
  · rcases acc_all db jb ab mb l hd x es ck i (by omega) hl a ha with ⟨f, hf, -, hp⟩ | ⟨g1, g2, g3, hl2, hp⟩
    · exact k_acc1 db jb ab mb l hd x es ck Γ Q E i a.what a.n a.b a.slot a.c EL pn pb lw VC b7 b8 b9 b12 l x f hf hp fun hd es ck =>
        k_rest db jb ab mb l hd x es ck Γ Q E i a.what a.n a.b a.slot a.c x L hL hL16 hx a.slot false (Stp.same x _ _) h50 pn pb lw EL VC b7 b8 b9 b12 e1 e2 e3 e4 (nx l hd x es ck hl.succ hx)
    · exact k_acc0 db jb ab mb l hd x es ck Γ Q E i a.what a.n a.b a.slot a.c EL pn pb lw VC b7 b8 b9 b12 _ _ hp (by rw [e1, e2]; exact g3) (by rw [e3]; exact g1) fun hd es ck =>
        k_rest db jb ab mb _ hd _ es ck Γ Q E i a.what a.n a.b a.slot a.c x L hL hL16 (hx.accept (toY_ok ha) (by show x.low ≤ a.slot; omega) g2) a.slot true (Stp.accept x (toY a)) h50 pn pb lw EL VC b7 b8 b9 b12 e1 e2 e3 e4 (nx _ hd _ es ck hl2 (hx.accept (toY_ok ha) (by show x.low ≤ a.slot; omega) g2))
  · obtain ⟨l2, x2, hl2, hc, hp⟩ := trunc_all db jb ab mb l hd x es ck i (by omega) hl a ha
    have hx2 : XOk x2 ∧ Stp x x2 false 0 := by
      rcases hc with ⟨-, -, rfl⟩ | ⟨-, -, rfl⟩
      · exact ⟨hx, Stp.same _ _ _⟩
      · exact ⟨hx.cut ha.slot (vw_ok a.c ha.c), Stp.cut _ _ _ _ _⟩
    exact k_trunc db jb ab mb l hd x es ck Γ Q E i a.what a.n a.b a.slot a.c EL pn pb lw VC b7 b8 b9 b12 l2 x2 ha.c hp fun hd es ck =>
      k_rest db jb ab mb l2 hd x2 es ck Γ Q E i a.what a.n a.b a.slot a.c x L hL hL16 hx2.1 0 false hx2.2 h50 pn pb lw EL VC b7 b8 b9 b12 e1 e2 e3 e4 (nx l2 hd x2 es ck hl2 hx2.1)
theorem k_loop (db jb ab mb : Nat) (Γ : Ctx) (Q : T → Obs → Glb → Prop) (E : List T) (A : List Ac) (hE : E = Row.aggs aC A) (hA : ∀ a ∈ A, a.Ok) (hQ : Q (bool true) [] none_) : ∀ (c i : Nat) (l : List (List UInt8)) (hd : Value) (x : AS) (es : Array MapEntry) (ck : Nat), i + c = min A.length 50 → LOk l i → XOk x → wAcO1 Γ Q [kAcO0 [1,1,1,1,1,1,0,1,0], .blk 0, kAcO0 [1,1,1,1,1,1,1]] ⟨frame 203 [(0, .sl 5 E), (4, .ptr 3 ab 0), (6, int i)], obsA db jb ab mb (Jrn.jd l) l hd false x es ck, none_⟩ := by
  have hlen : E.length = A.length := by rw [hE, Row.aggs_len]
  intro c
  induction c with
  | zero =>
    intro i l hd x es ck hi _ _
    exact k_end db jb ab mb l hd x es ck Γ Q E i (by omega) hQ
  | succ c ih =>
    intro i l hd x es ck hi hl hx
    exact k_round db jb ab mb l hd x es ck Γ Q E i A hE hA hl hx (by omega) (by omega) fun l hd x es ck h1 h2 => ih (i + 1) l hd x es ck (by omega) h1 h2
theorem keeps_any (A : List Ac) (hA : ∀ a ∈ A, a.Ok) (Q : T → Obs → Glb → Prop) (hQ : Q (bool true) [] none_) : TCalls Try.prog 3 [.sl 5 (Row.aggs aC A)] [] none_ Q := by
  obtain ⟨a1, a2⟩ := vs_one 1 (by decide) (vw 1) (vw_ok 1 (by decide))
  have sp := fun Q' hq => speaks_any Q' hq
  have vo := fun Q' hq => viewOf_any 1 (by decide) Q' hq
  have mk := fun db => make_new db 1 (vw 1) (by decide) (vw_ok 1 (by decide)) (callPost (told (int 0) [0] (obsK db (Jrn.jd [(Rc.birth 1 0 (vw 1)).b])))) (told_post rfl)
  have op := fun db => opn_post db 1 (vw 1) (by decide) (vw_ok 1 (by decide)) [] (fun _ h => nomatch h) (by decide) [(Rc.birth 1 0 (vw 1)).b] rfl a1 (Acp.cut Acp.st0 0 (vw 1)) rfl
  have hx : XOk (Acp.cut Acp.st0 0 (vw 1)) := Acp.xok_zero.cut (by decide) (vw_ok 1 (by decide))
  have lp := fun Γ db jb ab mb hd es ck => k_loop db jb ab mb Γ Q (Row.aggs aC A) A rfl hA hQ (min A.length 50) 0 [(Rc.birth 1 0 (vw 1)).b] hd _ es ck (by omega) ⟨a1, a2⟩ hx
  clear hQ a1 a2 hx
  generalize [(Rc.birth 1 0 (vw 1)).b] = l1 at *
  generalize Acp.cut Acp.st0 0 (vw 1) = x1 at *
  generalize Row.aggs aC A = E at *
  generalize vw 1 = v at *
  refine TCalls.of Try.func3 rfl (CanCall.of Try.func3 rfl (by decide)) [] fun Γ => ?_
  let HH : Nat → Nat → Hint := fun | 1, 0 => told (bool true) [] [] | 3, 0 => nwH | 4, 1 => told (.agg (viewC v)) [] [] | 4, 2 => dkH 0 (Jrn.jd l1) (int 0) | 6, 1 => opnH 0 l1 x1 | _, _ => .no
  exact run_sound ⟨HH, [((2, 10), ([0,4,6], 5))], fun | 21 => some ⟨[], [], .take true [0,1,2,3,4,5,6] (.one 7 (.take true [8,9,10,11,12,13,15] (.one 14 (.take true [16,17,18] .done))))⟩ | 25 => some ⟨[], [6], .take true [0,1,2,3,4] (.one 5 (.one 6 (.take false [7,8] .done)))⟩ | 18 => some ⟨[], [6], .take true [0,1,2,3,4] (.one 5 (.one 6 .done))⟩ | 29 => some ⟨[], [5,13], .take true [0,3,4] (.one 1 (.take true [2] (.one 5 (.take false [6,7,8,9,10,11,12] (.one 13 (.take false [14,15,16] .done))))))⟩ | _ => none⟩ 400 (by kernel_rfl) (Ya (sp (HH 1 0).P (told_post rfl)) (Yu (Ya new_post (fun (Z0 : Nat) => (fun (Z1 : True) => (Ya (vo (HH 4 1).P (told_post rfl)) (Yu (Ya (mk Z0) (Yu (Ya (op Z0) (fun (Z2 : Nat × Nat × Nat × Value × Array MapEntry × Nat) => (fun (Z3 : True) => (lp Γ Z0 Z2.fst Z2.snd.fst Z2.snd.snd.fst Z2.snd.snd.snd.fst Z2.snd.snd.snd.snd.fst Z2.snd.snd.snd.snd.snd)))))))))))))
end X11
end Go.Proofs.Ytcmcmafeaabjmaa.Vm
