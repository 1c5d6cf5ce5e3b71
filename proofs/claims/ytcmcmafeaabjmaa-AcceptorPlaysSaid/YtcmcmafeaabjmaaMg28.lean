/- Texts of this claim: AcM, AcN, AcO, AcW. -/
import Derived.Test.YtcmcmafeaabjmaaMg15
import Derived.Test.YtcmcmafeaabjmaaMg26
import Derived.Test.YtcmcmafeaabjmaaMg27
namespace Go.Proofs.Ytcmcmafeaabjmaa.Vm
open Go Go.RowKit
set_option maxRecDepth 100000
noncomputable abbrev kAcM0 (l : List Nat) : It := .code (sub (bd Try.f3) l)
noncomputable abbrev wAcM1 (Γ : Ctx) (Q : T → Obs → Glb → Prop) : List It → S → Prop := TWk Try.prog Γ (fin Try.prog Try.f3 [] Q)
def plAcM0 : Nat → Option RPlan := fun | 18 => some ⟨[], [6], .take true [0,1,2,3,4] (.one 5 (.one 6 .done))⟩ | 21 => some ⟨[], [], .take true [0,1,2,3,4,5,6] (.one 7 (.take true [8,9,10,11,12,13,15] (.one 14 (.take true [16,17,18] .done))))⟩ | 25 => some ⟨[], [6], .take true [0,1,2,3,4] (.one 5 (.one 6 (.take false [7,8] .done)))⟩ | 29 => some ⟨[], [5, 13], .take true [0,3,4] (.one 1 (.take true [2] (.one 5 (.take false [6,7,8,9,10,11,12] (.one 13 (.take false [14,15,16] .done))))))⟩ | _ => none
namespace X11
open Acp (En AS Rc blw VOk IsE XOk)
open View (VS Mem)
open X5 (viewC mems memC firstM firstL)
open Jrn (Dk)
open X9 (dkC obsK dkH dk_post)
open X10 (strs jC obsJ)
section
variable (db jb ab mb : Nat) (l : List (List UInt8)) (hd : Value) (x : AS) (es : Array MapEntry) (ck : Nat) (Γ : Ctx) (Q : T → Obs → Glb → Prop) (E : List T) (i : Nat) (s : Nat) (acc : Bool) (EL EL2 : List T) (lw2 : Nat)
end
end X11
end Go.Proofs.Ytcmcmafeaabjmaa.Vm
namespace Go.Proofs.Ytcmcmafeaabjmaa
namespace Acp
structure Stp (x x2 : AS) (acc : Bool) (s : Nat) : Prop where
  b : blw x2.pn x2.pb x.pn x.pb = false
  low : x.low ≤ x2.low
  E : ∀ y : En, x.E y.slot = some y → x2.E y.slot = some y ∨ (acc = true ∧ y.slot = s) ∨ y.slot < x2.low
theorem blw_irr (n b : Nat) : blw n b n b = false := by unfold blw; rw [decide_eq_false_iff_not]; omega
theorem Stp.same (x : AS) (acc : Bool) (s : Nat) : Stp x x acc s := ⟨blw_irr _ _, Nat.le_refl _, fun _ h => .inl h⟩
theorem promise_b (x : AS) (n b : Nat) : blw (promise x n b).pn (promise x n b).pb x.pn x.pb = false := by
  unfold promise
  split
  · rename_i h
    unfold blw at h ⊢
    simp only [decide_eq_true_eq] at h
    rw [decide_eq_false_iff_not]
    show ¬ (n < x.pn ∨ n = x.pn ∧ b < x.pb)
    omega
  · exact blw_irr _ _
theorem Stp.promise (x : AS) (n b : Nat) (acc : Bool) (s : Nat) : Stp x (Acp.promise x n b) acc s := by
  obtain ⟨e1, e2, e3⟩ := promise_E x n b
  exact ⟨promise_b x n b, by rw [e2]; exact Nat.le_refl _, fun y h => .inl (by rw [e1]; exact h)⟩
theorem Stp.accept (x : AS) (y : En) : Stp x (Acp.accept x y) true y.slot := by
  obtain ⟨e1, e2, e3⟩ := promise_E x y.n y.b
  refine ⟨promise_b x y.n y.b, Nat.le_of_eq e2.symm, fun z h => ?_⟩
  by_cases e : z.slot = y.slot
  · exact .inr (.inl ⟨rfl, e⟩)
  · left
    show upE x.E y.slot y z.slot = some z
    unfold upE
    rw [if_neg e]; exact h
theorem Stp.cut (x : AS) (low : Nat) (v : View.VS) (acc : Bool) (s : Nat) : Stp x (Acp.cut x low v) acc s := by
  refine ⟨blw_irr _ _, by show x.low ≤ max x.low low; omega, fun z h => ?_⟩
  by_cases e : z.slot < max x.low low
  · exact .inr (.inr e)
  · left
    show cutE x.E (max x.low low) z.slot = some z
    unfold cutE
    rw [if_neg e]; exact h
end Acp
end Go.Proofs.Ytcmcmafeaabjmaa
namespace Go.Proofs.Ytcmcmafeaabjmaa.Vm
open Go Go.RowKit
namespace X11
open Acp (En AS Rc blw VOk IsE XOk Stp)
open View (VS Mem)
open X5 (viewC mems memC firstM firstL)
open Jrn (Dk)
open X9 (dkC obsK dkH dk_post)
open X10 (strs jC obsJ)
section
variable (db jb ab mb : Nat) (l : List (List UInt8)) (hd : Value) (x : AS) (es : Array MapEntry) (ck : Nat) (Γ : Ctx) (Q : T → Obs → Glb → Prop) (E : List T) (i : Nat) (s : Nat) (acc : Bool) (EL EL2 : List T) (lw2 : Nat)
end
end X11
end Go.Proofs.Ytcmcmafeaabjmaa.Vm
namespace Go.Proofs.Ytcmcmafeaabjmaa.Vm
open Go Go.RowKit
set_option maxRecDepth 100000
noncomputable abbrev kAcO0 (l : List Nat) : It := .code (sub (bd Try.f3) l)
noncomputable abbrev wAcO1 (Γ : Ctx) (Q : T → Obs → Glb → Prop) : List It → S → Prop := TWk Try.prog Γ (fin Try.prog Try.f3 [] Q)
namespace X11
open Acp (En AS Rc blw VOk IsE XOk Stp)
open View (VS Mem)
open X5 (viewC mems memC firstM firstL)
open Jrn (Dk)
open X9 (dkC obsK dkH dk_post)
open X10 (strs jC obsJ)
structure Ac where
  what : Int
  n : Nat
  b : Nat
  slot : Nat
  c : Nat
def aC (a : Ac) : List T := [int a.what, u32 a.n, u8 a.b, u32 a.slot, u32 a.c]
structure Ac.Ok (a : Ac) : Prop where
  n : a.n < 4294967296
  b : a.b < 256
  slot : a.slot < 4294967296
  c : a.c < 4294967296
def toY (a : Ac) : En := ⟨a.slot, a.n, a.b, a.c % 256, a.c / 8 % 256, a.c / 64 % 256, a.c, a.c / 2⟩
theorem toY_ok {a : Ac} (h : a.Ok) : (toY a).Ok := ⟨h.slot, h.n, h.b, Nat.mod_lt _ (by decide), Nat.mod_lt _ (by decide), Nat.mod_lt _ (by decide), h.c, by have := h.c; show a.c / 2 < _; omega⟩
theorem pd_post {db jb ab mb : Nat} {y : T} {d : Dk} {l : List (List UInt8)} {x : AS} (hd : Value) (es : Array MapEntry) (ck : Nat) : callPost (acPd db jb ab mb y d l x) y (obsA db jb ab mb d l hd false x es ck) none_ := ⟨(hd, es, ck), trivial, rfl, rfl, Nat.le_of_ble_eq_true rfl, fun h => by cases h⟩
structure LOk (l : List (List UInt8)) (i : Nat) : Prop where
  v : Jrn.Vs l
  n : (Jrn.flat l).length ≤ 70 + 70 * i
theorem LOk.add {l : List (List UInt8)} {i : Nat} (h : LOk l i) (hi : i ≤ 100) {r : Rc} (hr : r.Ok) : LOk (l ++ [r.b]) (i + 1) := by
  have h1 := h.n
  obtain ⟨a, b⟩ := vs_add h.v hr (by omega)
  exact ⟨a, by omega⟩
theorem LOk.succ {l : List (List UInt8)} {i : Nat} (h : LOk l i) : LOk l (i + 1) := ⟨h.v, by have := h.n; omega⟩
theorem LOk.room {l : List (List UInt8)} {i : Nat} (h : LOk l i) (hi : i ≤ 100) : (Jrn.flat l).length + 70 ≤ 1048576 := by have := h.n; omega
section
variable (db jb ab mb : Nat) (l : List (List UInt8)) (hd : Value) (x : AS) (es : Array MapEntry) (ck : Nat)
theorem prep_all (i : Nat) (hi : i ≤ 100) (hl : LOk l i) (hx : XOk x) (a : Ac) (ha : a.Ok) :
    (∃ f : Int, f ≠ 0 ∧ (f = 9 ∧ a.slot < x.low ∨ f = 8 ∧ ¬ a.slot < x.low ∧ blw a.n a.b x.pn x.pb = true) ∧ TCalls Try.prog 15 [.ptr 3 ab 0, .agg [u32 a.n, u8 a.b], u32 a.slot] (obsA db jb ab mb (Jrn.jd l) l hd false x es ck) none_ (callPost (acPd db jb ab mb (.tup [.v nilS, int f]) (Jrn.jd l) l x))) ∨
    (¬ a.slot < x.low ∧ blw a.n a.b x.pn x.pb = false ∧ ∃ l2, LOk l2 (i + 1) ∧ (l2 = l ∧ Acp.promise x a.n a.b = x ∨ l2 = l ++ [(Rc.prom a.n a.b).b]) ∧ ∀ L, IsE x.E a.slot L → TCalls Try.prog 15 [.ptr 3 ab 0, .agg [u32 a.n, u8 a.b], u32 a.slot] (obsA db jb ab mb (Jrn.jd l) l hd false x es ck) none_ (callPost (acPd db jb ab mb (.tup [.sl 8 (Row.aggs enC L), int 0]) (Jrn.jd l2) l2 (Acp.promise x a.n a.b)))) := by
  by_cases h1 : a.slot < x.low
  · exact .inl ⟨9, by decide, .inl ⟨rfl, h1⟩, prep_low db jb ab mb l hd x es ck a.n a.b a.slot h1 _ (pd_post hd es ck)⟩
  · cases hb : blw a.n a.b x.pn x.pb with
    | true => exact .inl ⟨8, by decide, .inr ⟨rfl, h1, rfl⟩, prep_old db jb ab mb l hd x es ck a.n a.b a.slot h1 hb _ (pd_post hd es ck)⟩
    | false =>
      right
      refine ⟨h1, rfl, ?_⟩
      cases hb2 : blw x.pn x.pb a.n a.b with
      | true =>
        refine ⟨_, hl.add hi (r := .prom a.n a.b) ⟨ha.n, ha.b⟩, .inr rfl, fun L hL => ?_⟩
        exact prep_new db jb ab mb l hd x es ck hl.v (hl.room hi) a.n a.b a.slot ha.n ha.b h1 hb hb2 L _ (fun hd es ck Q' hq => entries_any db jb ab mb _ _ hd false _ es ck (hx.promise ha.n ha.b) a.slot L (by rw [(Acp.promise_E x a.n a.b).1]; exact hL) Q' hq) fun hd es ck => pd_post hd es ck
      | false =>
        have e : Acp.promise x a.n a.b = x := by unfold Acp.promise; rw [hb2]; rfl
        refine ⟨l, hl.succ, .inl ⟨rfl, e⟩, fun L hL => ?_⟩
        rw [e]
        exact prep_same db jb ab mb l hd x es ck a.n a.b a.slot h1 hb hb2 L _ (fun Q' hq => entries_any db jb ab mb _ _ hd false x es ck hx a.slot L hL Q' hq) (pd_post hd es ck)
theorem acc_all (i : Nat) (hi : i ≤ 100) (hl : LOk l i) (a : Ac) (ha : a.Ok) :
    (∃ f : Int, f ≠ 0 ∧ (f = 9 ∧ a.slot < x.low ∨ f = 6 ∧ ¬ a.slot < x.low ∧ x.low + 16 ≤ a.slot ∨ f = 8 ∧ ¬ a.slot < x.low ∧ a.slot < x.low + 16 ∧ blw a.n a.b x.pn x.pb = true) ∧ TCalls Try.prog 17 [.ptr 3 ab 0, .agg [u32 a.n, u8 a.b], u32 a.slot, cmd a.c] (obsA db jb ab mb (Jrn.jd l) l hd false x es ck) none_ (callPost (acPd db jb ab mb (int f) (Jrn.jd l) l x))) ∨
    (¬ a.slot < x.low ∧ a.slot < x.low + 16 ∧ blw a.n a.b x.pn x.pb = false ∧ LOk (l ++ [(Rc.acc (toY a)).b]) (i + 1) ∧ TCalls Try.prog 17 [.ptr 3 ab 0, .agg [u32 a.n, u8 a.b], u32 a.slot, cmd a.c] (obsA db jb ab mb (Jrn.jd l) l hd false x es ck) none_ (callPost (acPd db jb ab mb (int 0) (Jrn.jd (l ++ [(Rc.acc (toY a)).b])) (l ++ [(Rc.acc (toY a)).b]) (Acp.accept x (toY a))))) := by
  by_cases h1 : a.slot < x.low
  · exact .inl ⟨9, by decide, .inl ⟨rfl, h1⟩, acc_low db jb ab mb l hd x es ck a.n a.b a.slot _ _ _ _ _ h1 _ (pd_post hd es ck)⟩
  · by_cases h2 : a.slot < x.low + 16
    · cases hb : blw a.n a.b x.pn x.pb with
      | true => exact .inl ⟨8, by decide, .inr (.inr ⟨rfl, h1, h2, rfl⟩), acc_old db jb ab mb l hd x es ck a.n a.b a.slot _ _ _ _ _ h1 h2 ha.slot hb _ (pd_post hd es ck)⟩
      | false => exact .inr ⟨h1, h2, rfl, hl.add hi (toY_ok ha), acc_new db jb ab mb l hd x es ck hl.v (hl.room hi) (toY a) (toY_ok ha) h1 h2 hb _ fun hd es ck => pd_post hd es ck⟩
    · exact .inl ⟨6, by decide, .inr (.inl ⟨rfl, h1, by omega⟩), acc_full db jb ab mb l hd x es ck a.n a.b a.slot _ _ _ _ _ h1 (by omega) ha.slot _ (pd_post hd es ck)⟩
theorem trunc_all (i : Nat) (hi : i ≤ 100) (hl : LOk l i) (a : Ac) (ha : a.Ok) :
    ∃ l2 x2, LOk l2 (i + 1) ∧ (a.slot ≤ x.low ∧ l2 = l ∧ x2 = x ∨ x.low < a.slot ∧ l2 = l ++ [(Rc.cut a.slot (vw a.c)).b] ∧ x2 = Acp.cut x a.slot (vw a.c)) ∧ TCalls Try.prog 19 [.ptr 3 ab 0, u32 a.slot, .agg (viewC (vw a.c))] (obsA db jb ab mb (Jrn.jd l) l hd false x es ck) none_ (callPost (acPd db jb ab mb (int 0) (Jrn.jd l2) l2 x2)) := by
  have hv := vw_ok a.c ha.c
  by_cases h : x.low < a.slot
  · exact ⟨_, _, hl.add hi (r := .cut a.slot (vw a.c)) ⟨ha.slot, hv⟩, .inr ⟨h, rfl, rfl⟩, trunc_new db jb ab mb l hd x es ck hl.v (hl.room hi) a.slot (vw a.c) hv ha.slot h _ fun hd es ck => pd_post hd es ck⟩
  · exact ⟨l, x, hl.succ, .inl ⟨by omega, rfl, rfl⟩, trunc_none db jb ab mb l hd x es ck a.slot (vw a.c) hv.len (by omega) _ (pd_post hd es ck)⟩
end
end X11
end Go.Proofs.Ytcmcmafeaabjmaa.Vm
namespace Go.Proofs.Ytcmcmafeaabjmaa
namespace Acp
theorem Both.promise {x : AS} {m : RA} (h : Both x m) {n b : Nat} (hb : blw n b x.pn x.pb = false) : Both (promise x n b) ⟨n, b, m.low, m.l⟩ := by
  have h1 : (Acp.promise x n b).pn = n ∧ (Acp.promise x n b).pb = b := by
    unfold Acp.promise
    split
    · exact ⟨rfl, rfl⟩
    · rename_i h2
      unfold blw at hb h2
      simp only [decide_eq_true_eq, decide_eq_false_iff_not] at hb h2
      constructor <;> omega
  obtain ⟨e1, e2, e3⟩ := promise_E x n b
  exact ⟨h1.1.symm, h1.2.symm, h.low.trans e2.symm, by rw [e1]; exact h.l⟩
end Acp
end Go.Proofs.Ytcmcmafeaabjmaa
namespace Go.Proofs.Ytcmcmafeaabjmaa.Vm
open Go Go.RowKit
set_option maxRecDepth 100000
noncomputable abbrev kAcW0 (l : List Nat) : It := .code (sub (bd Try.f5) l)
noncomputable abbrev wAcW1 (Γ : Ctx) (Q : T → Obs → Glb → Prop) : List It → S → Prop := TWk Try.prog Γ (fin Try.prog Try.f5 [] Q)
namespace X11
open Acp (En AS Rc blw VOk IsE XOk RE RA fromR insR toE)
open View (VS Mem)
open X5 (viewC mems memC firstM firstL)
open Jrn (Dk)
open X9 (dkC obsK dkH dk_post)
open X10 (strs jC obsJ)
open Acp (Both)
structure PIn (i : Nat) (l : List (List UInt8)) (x : AS) (m : RA) (base : Nat) : Prop where
  rs : ∃ rs : List Rc, l = (Rc.birth 3 0 (vw 5) :: rs).map Rc.b ∧ (∀ r ∈ rs, r.Ok) ∧ rs.length ≤ i ∧ Acp.run Acp.st0 (Rc.birth 3 0 (vw 5) :: rs) = x
  lo : LOk l i
  xo : XOk x
  bo : Both x m
  bs : base < 4294967296
  ve : x.v = vw base
theorem PIn.succ {i : Nat} {l : List (List UInt8)} {x : AS} {m : RA} {base : Nat} (h : PIn i l x m base) : PIn (i + 1) l x m base := by
  obtain ⟨rs, h1, h2, h3, h4⟩ := h.rs
  exact ⟨⟨rs, h1, h2, by omega, h4⟩, h.lo.succ, h.xo, h.bo, h.bs, h.ve⟩
theorem PIn.add {i : Nat} {l : List (List UInt8)} {x : AS} {m : RA} {base : Nat} (h : PIn i l x m base) (hi : i ≤ 100) {r : Rc} (hr : r.Ok) {x2 : AS} (e : Acp.step x r = x2) {m2 : RA} {base2 : Nat} (hx : XOk x2) (hm : Both x2 m2) (hb : base2 < 4294967296) (hv : x2.v = vw base2) : PIn (i + 1) (l ++ [r.b]) x2 m2 base2 := by
  obtain ⟨rs, h1, h2, h3, h4⟩ := h.rs
  refine ⟨⟨rs ++ [r], by rw [h1]; simp, fun s hs => ?_, by rw [List.length_append, List.length_singleton]; omega, ?_⟩, h.lo.add hi hr, hx, hm, hb, hv⟩
  · rcases List.mem_append.1 hs with hs | hs
    · exact h2 s hs
    · rw [List.mem_singleton.1 hs]; exact hr
  · rw [← List.cons_append, Acp.run_snoc, h4, e]
theorem PIn.len {i : Nat} {l : List (List UInt8)} {x : AS} {m : RA} {base : Nat} (h : PIn i l x m base) : m.l.length ≤ 16 := by
  have := h.xo.len h.bo.l
  rwa [List.length_map] at this
theorem rprep1 (m : RA) (n b f : Nat) (e : Int) (he : e = 9 ∧ f < m.low ∨ e = 8 ∧ ¬ f < m.low ∧ blw n b m.n m.b = true) (hn : n < 4294967296) (hb : b < 256) (hmn : m.n < 4294967296) (hmb : m.b < 256) (Q : T → Obs → Glb → Prop) (hQ : Q (.tup [.agg (raC m), .v nilS, int e]) [] none_) : TCalls Try.prog 24 [.agg (raC m), .agg [u32 n, u8 b, u8 0], u32 f] [] none_ Q := by
  rcases he with ⟨rfl, h⟩ | ⟨rfl, h, h2⟩
  · exact rprep_low m.n m.b m.low _ n b f h Q hQ
  · exact rprep_old m.n m.b m.low _ n b f h (fun Q' hq => less_any n b m.n m.b hn hb hmn hmb Q' (by rw [h2]; exact hq)) Q hQ
theorem rprep0 (m : RA) (n b f : Nat) (hm : m.l.length ≤ 16) (h : ¬ f < m.low) (h2 : blw n b m.n m.b = false) (hn : n < 4294967296) (hb : b < 256) (hmn : m.n < 4294967296) (hmb : m.b < 256) (Q : T → Obs → Glb → Prop) (hQ : Q (.tup [.agg (raC ⟨n, b, m.low, m.l⟩), .sl 5 (Row.aggs reC (fromR m.l f)), int 0]) [] none_) : TCalls Try.prog 24 [.agg (raC m), .agg [u32 n, u8 b, u8 0], u32 f] [] none_ Q :=
  rprep_new m.n m.b m.low _ n b f h (fun Q' hq => less_any n b m.n m.b hn hb hmn hmb Q' (by rw [h2]; exact hq)) _ (fun Q' hq => from_any ⟨n, b, m.low, m.l⟩ f (by show m.l.length ≤ _; omega) Q' hq) Q hQ
theorem racc1 (m : RA) (n b slot c : Nat) (e : Int) (he : e = 9 ∧ slot < m.low ∨ e = 6 ∧ ¬ slot < m.low ∧ m.low + 16 ≤ slot ∨ e = 8 ∧ ¬ slot < m.low ∧ slot < m.low + 16 ∧ blw n b m.n m.b = true) (hs : slot < 4294967296) (hn : n < 4294967296) (hb : b < 256) (hmn : m.n < 4294967296) (hmb : m.b < 256) (Q : T → Obs → Glb → Prop) (hQ : Q (.tup [.agg (raC m), int e]) [] none_) : TCalls Try.prog 28 [.agg (raC m), .agg [u32 n, u8 b, u8 0], u32 slot, u32 c] [] none_ Q := by
  rcases he with ⟨rfl, h⟩ | ⟨rfl, h, h2⟩ | ⟨rfl, h, h2, h3⟩
  · exact racc_low m.n m.b m.low _ n b slot c h Q hQ
  · exact racc_full m.n m.b m.low _ n b slot c h h2 hs Q hQ
  · exact racc_old m.n m.b m.low _ n b slot c h h2 hs (fun Q' hq => less_any n b m.n m.b hn hb hmn hmb Q' (by rw [h3]; exact hq)) Q hQ
section
variable (db jb ab mb rb : Nat) (l : List (List UInt8)) (hd : Value) (x : AS) (es : Array MapEntry) (ck : Nat) (base : Nat) (Γ : Ctx) (Q : T → Obs → Glb → Prop) (E : List T) (i : Nat)
theorem p_rest (f : Int) (m : RA) (h : PIn (i + 1) l x m base) (hi : i < 60) (nx : wAcW1 Γ Q [kAcW0 [1,1,1,1,1,1,1,1,0,1,0], .blk 0, kAcW0 [1,1,1,1,1,1,1,1,1]] ⟨frame 198 [(0, .sl 5 E), (3, .ptr 0 db 0), (4, .ptr 3 ab 0), (6, .ptr 5 rb 0), (7, u32 base), (8, int (i + 1 : Nat))], obsA db jb ab mb (Jrn.jd l) l hd false x es ck ++ [(rb, .cells (raC m))], none_⟩) : wAcW1 Γ Q [kAcW0 [1,1,1,1,1,1,1,1,0,1,0,0,1,0,0,1,1,1,1], .blk 1, kAcW0 [1,1,1,1,1,1,1,1,0,1,0,0,1,1], kAcW0 [1,1,1,1,1,1,1,1,0,1,0], .blk 0, kAcW0 [1,1,1,1,1,1,1,1,1]] ⟨frame 198 [(0, .sl 5 E), (3, .ptr 0 db 0), (4, .ptr 3 ab 0), (6, .ptr 5 rb 0), (7, u32 base), (8, int i), (12, int f), (13, int f)], obsA db jb ab mb (Jrn.jd l) l hd false x es ck ++ [(rb, .cells (raC m))], none_⟩ := by
  have hb := h.bo
  exact p_tail db jb ab mb rb l hd x es ck base Γ Q E i (Row.aggs reC m.l) f (vw base) h.ve m.n m.b m.low hb.n.symm hb.b.symm hb.low.symm (by have := (vw_ok base h.bs).len; omega) hi _ (fun Q' hq => viewOf_any base h.bs Q' hq)
    (fun Q' hq => entries_any db jb ab mb _ _ hd false x es ck h.xo 0 _ hb.l Q' hq) (fun Q' hq => same_any m.l (by have := h.len; omega) Q' hq) nx
end
theorem p_round (db jb ab mb rb : Nat) (l : List (List UInt8)) (hd : Value) (x : AS) (es : Array MapEntry) (ck : Nat) (base : Nat) (Γ : Ctx) (Q : T → Obs → Glb → Prop) (E : List T) (i : Nat) (m : RA) (A : List Ac) (hE : E = Row.aggs aC A) (hA : ∀ a ∈ A, a.Ok) (h : PIn i l x m base) (hi : i < A.length) (h60 : i < 60)
    (nx : ∀ (jb ab mb : Nat) (l : List (List UInt8)) (hd : Value) (x : AS) (es : Array MapEntry) (ck : Nat) (m : RA) (base : Nat), PIn (i + 1) l x m base → wAcW1 Γ Q [kAcW0 [1,1,1,1,1,1,1,1,0,1,0], .blk 0, kAcW0 [1,1,1,1,1,1,1,1,1]] ⟨frame 198 [(0, .sl 5 E), (3, .ptr 0 db 0), (4, .ptr 3 ab 0), (6, .ptr 5 rb 0), (7, u32 base), (8, int (i + 1 : Nat))], obsA db jb ab mb (Jrn.jd l) l hd false x es ck ++ [(rb, .cells (raC m))], none_⟩) : wAcW1 Γ Q [kAcW0 [1,1,1,1,1,1,1,1,0,1,0], .blk 0, kAcW0 [1,1,1,1,1,1,1,1,1]] ⟨frame 198 [(0, .sl 5 E), (3, .ptr 0 db 0), (4, .ptr 3 ab 0), (6, .ptr 5 rb 0), (7, u32 base), (8, int i)], obsA db jb ab mb (Jrn.jd l) l hd false x es ck ++ [(rb, .cells (raC m))], none_⟩ := by
  have hlen : E.length = A.length := by rw [hE, Row.aggs_len]
  have ha := hA A[i] (List.getElem_mem hi)
  have hat : E[((i : Nat) : Int).toNat]? = some (.agg (aC A[i])) := by rw [hE, Int.toNat_natCast]; exact Row.aggs_at (List.getElem?_eq_getElem hi)
  generalize A[i] = a at *
  have hb := h.bo
  have hmn : m.n < 4294967296 := by rw [hb.n]; exact h.xo.pn
  have hmb : m.b < 256 := by rw [hb.b]; exact h.xo.pb
  have h16 := h.len
  obtain ⟨r, kd, hr, hr1, hr2, hk, hk6⟩ := turn_at a.what 6 (by decide) (by decide)
  refine p_front db jb ab mb rb l hd x es ck base Γ Q E i m.n m.b m.low (Row.aggs reC m.l) a.what a.n a.b a.slot a.c kd r hr hr1 hr2 hk (by omega) h60 hat ?_
  intro b9 b10 b11
  have hk' : kd = 0 ∨ (kd = 1 ∨ kd = 2) ∨ kd = 3 ∨ kd = 4 ∨ kd = 5 := by omega
  rcases hk' with rfl | hk' | rfl | rfl | rfl
  · rcases prep_all db jb ab mb l hd x es ck i (by omega) h.lo h.xo a ha with ⟨f, -, hf, hp⟩ | ⟨g1, g2, l2, -, hl2, hp⟩
    · rw [← hb.low, ← hb.n, ← hb.b] at hf
      exact p_prep1 db jb ab mb rb l hd x es ck base Γ Q E i a.what a.n a.b a.slot a.c b9 b10 b11 l x m.n m.b m.low _ m.n m.b m.low _ f hp (fun Q' hq => rprep1 m a.n a.b a.slot f hf ha.n ha.b hmn hmb Q' hq) fun hd es ck =>
        p_rest db jb ab mb rb l hd x es ck base Γ Q E i f m h.succ h60 (nx jb ab mb l hd x es ck m base h.succ)
    · have h2 : PIn (i + 1) l2 (Acp.promise x a.n a.b) ⟨a.n, a.b, m.low, m.l⟩ base := by
        have hB := hb.promise g2
        rcases hl2 with ⟨rfl, e⟩ | rfl
        · rw [e] at hB ⊢
          exact { h.succ with bo := hB }
        · exact h.add (by omega) (r := .prom a.n a.b) ⟨ha.n, ha.b⟩ rfl (h.xo.promise ha.n ha.b) hB h.bs (by show (Acp.promise x a.n a.b).v = _; rw [(Acp.promise_E x a.n a.b).2.2]; exact h.ve)
      have g1' : ¬ a.slot < m.low := by rw [hb.low]; exact g1
      have g2' : blw a.n a.b m.n m.b = false := by rw [hb.n, hb.b]; exact g2
      exact p_prep0 db jb ab mb rb l hd x es ck base Γ Q E i a.what a.n a.b a.slot a.c b9 b10 b11 l2 _ m.n m.b m.low _ a.n a.b m.low _ _ _ (hp _ (hb.frm a.slot)) (fun Q' hq => rprep0 m a.n a.b a.slot h16 g1' g2' ha.n ha.b hmn hmb Q' hq)
        (fun Q' hq => same_any (fromR m.l a.slot) (by have := List.length_filter_le (fun r : RE => decide (a.slot ≤ r.slot)) m.l; show (List.filter _ _).length ≤ _; omega) Q' hq) fun hd es ck =>
        p_rest db jb ab mb rb l2 hd _ es ck base Γ Q E i 0 ⟨a.n, a.b, m.low, m.l⟩ h2 h60 (nx jb ab mb l2 hd _ es ck _ base h2)
  · rcases acc_all db jb ab mb l hd x es ck i (by omega) h.lo a ha with ⟨f, -, hf, hp⟩ | ⟨g1, g2, g3, -, hp⟩
    · rw [← hb.low, ← hb.n, ← hb.b] at hf
      exact p_acc db jb ab mb rb l hd x es ck base Γ Q E i a.what a.n a.b a.slot a.c b9 b10 b11 l x m.n m.b m.low _ m.n m.b m.low _ kd hk' f hp (fun Q' hq => racc1 m a.n a.b a.slot a.c f hf ha.slot ha.n ha.b hmn hmb Q' hq) fun hd es ck =>
        p_rest db jb ab mb rb l hd x es ck base Γ Q E i f m h.succ h60 (nx jb ab mb l hd x es ck m base h.succ)
    · have g1' : ¬ a.slot < m.low := by rw [hb.low]; exact g1
      have g2' : a.slot < m.low + 16 := by rw [hb.low]; exact g2
      have g3' : blw a.n a.b m.n m.b = false := by rw [hb.n, hb.b]; exact g3
      have h2 : PIn (i + 1) (l ++ [(Rc.acc (toY a)).b]) (Acp.accept x (toY a)) ⟨a.n, a.b, m.low, insR ⟨a.slot, a.n, a.b, a.c⟩ false m.l⟩ base :=
        h.add (by omega) (r := .acc (toY a)) (toY_ok ha) rfl (h.xo.accept (toY_ok ha) (by show x.low ≤ a.slot; omega) g2) (hb.accept ⟨a.slot, a.n, a.b, a.c⟩ g3) h.bs (by show (Acp.promise x a.n a.b).v = _; rw [(Acp.promise_E x a.n a.b).2.2]; exact h.ve)
      exact p_acc db jb ab mb rb l hd x es ck base Γ Q E i a.what a.n a.b a.slot a.c b9 b10 b11 _ _ m.n m.b m.low _ a.n a.b m.low _ kd hk' 0 hp (fun Q' hq => racc_new m (by omega) a.n a.b a.slot a.c g1' g2' ha.slot (fun Q' hq => less_any a.n a.b m.n m.b ha.n ha.b hmn hmb Q' (by rw [g3']; exact hq)) Q' hq) fun hd es ck =>
        p_rest db jb ab mb rb _ hd _ es ck base Γ Q E i 0 ⟨a.n, a.b, m.low, insR ⟨a.slot, a.n, a.b, a.c⟩ false m.l⟩ h2 h60 (nx jb ab mb _ hd _ es ck _ base h2)
  · obtain ⟨l2, x2, -, hc, hp⟩ := trunc_all db jb ab mb l hd x es ck i (by omega) h.lo a ha
    rcases hc with ⟨g, rfl, rfl⟩ | ⟨g, rfl, rfl⟩
    · exact p_trunc0 db jb ab mb rb _ hd _ es ck base Γ Q E i a.what a.n a.b a.slot a.c b9 b10 b11 _ _ m.n m.b m.low _ m.n m.b m.low _ ha.c (by rw [hb.low]; omega) hp (fun Q' hq => rtrunc_none m.n m.b m.low _ a.slot (by rw [hb.low]; omega) Q' hq) fun hd es ck =>
        p_rest db jb ab mb rb _ hd _ es ck base Γ Q E i 0 m h.succ h60 (nx jb ab mb _ hd _ es ck m base h.succ)
    · have h2 : PIn (i + 1) (l ++ [(Rc.cut a.slot (vw a.c)).b]) (Acp.cut x a.slot (vw a.c)) ⟨m.n, m.b, a.slot, fromR m.l a.slot⟩ a.c :=
        h.add (by omega) (r := .cut a.slot (vw a.c)) ⟨ha.slot, vw_ok a.c ha.c⟩ rfl (h.xo.cut ha.slot (vw_ok a.c ha.c)) (hb.cut a.slot _ g) ha.c rfl
      exact p_trunc1 db jb ab mb rb l hd x es ck base Γ Q E i a.what a.n a.b a.slot a.c b9 b10 b11 _ _ m.n m.b m.low _ m.n m.b a.slot _ ha.c (by rw [hb.low]; exact g) hp (fun Q' hq => rtrunc_new m.n m.b m.low _ a.slot (by rw [hb.low]; exact g) _ (fun Q' hq => from_any ⟨m.n, m.b, a.slot, m.l⟩ a.slot (by show m.l.length ≤ _; omega) Q' hq) Q' hq) fun hd es ck =>
        p_rest db jb ab mb rb _ hd _ es ck a.c Γ Q E i 0 ⟨m.n, m.b, a.slot, fromR m.l a.slot⟩ h2 h60 (nx jb ab mb _ hd _ es ck _ a.c h2)
  · obtain ⟨rs, h1, h2, h3, h4⟩ := h.rs
    exact p_open db jb ab mb rb l hd x es ck base Γ Q E i a.what a.n a.b a.slot a.c b9 b10 b11 m.n m.b m.low _ h.lo.v (opn_post db 3 (vw 5) (by decide) (vw_ok 5 (by decide)) rs h2 (by omega) l h1 h.lo.v x h4) fun jb ab mb hd es ck =>
      p_rest db jb ab mb rb l hd x es ck base Γ Q E i 0 m h.succ h60 (nx jb ab mb l hd x es ck m base h.succ)
  · exact p_ent db jb ab mb rb l hd x es ck base Γ Q E i a.what a.n a.b a.slot a.c b9 b10 b11 m.n m.b m.low _ _ _ (fun Q' hq => entries_any db jb ab mb _ _ hd false x es ck h.xo a.slot _ (hb.frm a.slot) Q' hq) (fun Q' hq => from_any m a.slot (by omega) Q' hq)
      (fun Q' hq => same_any (fromR m.l a.slot) (by have := List.length_filter_le (fun r : RE => decide (a.slot ≤ r.slot)) m.l; show (List.filter _ _).length ≤ _; omega) Q' hq)
      (p_rest db jb ab mb rb l hd x es ck base Γ Q E i 0 m h.succ h60 (nx jb ab mb l hd x es ck m base h.succ))
theorem p_loop (db rb : Nat) (Γ : Ctx) (Q : T → Obs → Glb → Prop) (E : List T) (A : List Ac) (hE : E = Row.aggs aC A) (hA : ∀ a ∈ A, a.Ok) (hQ : Q (bool true) [] none_) : ∀ (c i : Nat) (jb ab mb : Nat) (l : List (List UInt8)) (hd : Value) (x : AS) (es : Array MapEntry) (ck : Nat) (m : RA) (base : Nat), i + c = min A.length 60 → PIn i l x m base → wAcW1 Γ Q [kAcW0 [1,1,1,1,1,1,1,1,0,1,0], .blk 0, kAcW0 [1,1,1,1,1,1,1,1,1]] ⟨frame 198 [(0, .sl 5 E), (3, .ptr 0 db 0), (4, .ptr 3 ab 0), (6, .ptr 5 rb 0), (7, u32 base), (8, int i)], obsA db jb ab mb (Jrn.jd l) l hd false x es ck ++ [(rb, .cells (raC m))], none_⟩ := by
  have hlen : E.length = A.length := by rw [hE, Row.aggs_len]
  intro c
  induction c with
  | zero =>
    intro i jb ab mb l hd x es ck m base hi _
    exact p_end db jb ab mb rb l hd x es ck base Γ Q E i _ (by omega) hQ
  | succ c ih =>
    intro i jb ab mb l hd x es ck m base hi h
    exact p_round db jb ab mb rb l hd x es ck base Γ Q E i m A hE hA h (by omega) (by omega) fun jb ab mb l hd x es ck m base h => ih (i + 1) jb ab mb l hd x es ck m base (by omega) h
theorem pin_zero (hv : Jrn.Vs [(Rc.birth 3 0 (vw 5)).b]) (hn : (Jrn.flat [(Rc.birth 3 0 (vw 5)).b]).length ≤ 70) : PIn 0 [(Rc.birth 3 0 (vw 5)).b] (Acp.cut Acp.st0 0 (vw 5)) ⟨0, 0, 0, []⟩ 5 :=
  ⟨⟨[], rfl, (fun _ h => nomatch h), Nat.le_refl _, rfl⟩, ⟨hv, by omega⟩, Acp.xok_zero.cut (by decide) (vw_ok 5 (by decide)),
    ⟨rfl, rfl, rfl, ⟨List.Pairwise.nil, fun y => by
      constructor
      · intro h; nomatch h
      · rintro ⟨h, -⟩
        have h : Acp.cutE (fun _ => none) (max 0 0) y.slot = some y := h
        unfold Acp.cutE at h
        split at h <;> cases h⟩⟩, by decide, rfl⟩
theorem plays_any (A : List Ac) (hA : ∀ a ∈ A, a.Ok) (Q : T → Obs → Glb → Prop) (hQ : Q (bool true) [] none_) : TCalls Try.prog 5 [.sl 5 (Row.aggs aC A)] [] none_ Q := by
  obtain ⟨a1, a2⟩ := vs_one 3 (by decide) (vw 5) (vw_ok 5 (by decide))
  have sp := fun Q' hq => speaks_any Q' hq
  have vo := fun Q' hq => viewOf_any 5 (by decide) Q' hq
  have mk := fun db => make_new db 3 (vw 5) (by decide) (vw_ok 5 (by decide)) (callPost (told (int 0) [0] (obsK db (Jrn.jd [(Rc.birth 3 0 (vw 5)).b])))) (told_post rfl)
  have op := fun db => opn_post db 3 (vw 5) (by decide) (vw_ok 5 (by decide)) [] (fun _ h => nomatch h) (by decide) [(Rc.birth 3 0 (vw 5)).b] rfl a1 (Acp.cut Acp.st0 0 (vw 5)) rfl
  have lp := fun Γ db jb ab mb rb hd es ck => p_loop db rb Γ Q (Row.aggs aC A) A rfl hA hQ (min A.length 60) 0 jb ab mb [(Rc.birth 3 0 (vw 5)).b] hd _ es ck ⟨0, 0, 0, []⟩ 5 (by omega) (pin_zero a1 a2)
  clear hQ a1 a2
  generalize [(Rc.birth 3 0 (vw 5)).b] = l1 at *
  generalize Acp.cut Acp.st0 0 (vw 5) = x1 at *
  generalize Row.aggs aC A = E at *
  generalize vw 5 = v at *
  have lp := fun Γ db jb ab mb rb hd es ck => TWk.imp (s := ⟨frame 198 [(0, .sl 5 E), (3, .ptr 0 db 0), (4, .ptr 3 ab 0), (6, .ptr 5 rb 0), (7, u32 5), (8, int 0)], obsA db jb ab mb (Jrn.jd l1) l1 hd false x1 es ck ++ [(rb, .cells [u32 0, u8 0, u8 0, u32 0, .v nilS])], none_⟩) (lp Γ db jb ab mb rb hd es ck) (Imp.cellR (i := 5) (j := 4) (b := rb) (cs := [u32 0, u8 0, u8 0, u32 0, .v nilS]) (t := .v nilS) (t' := .sl 5 []) rfl rfl (fun M v h => rel_nil0 h))
  refine TCalls.of Try.func5 rfl (CanCall.of Try.func5 rfl (by decide)) [] fun Γ => ?_
  let HH : Nat → Nat → Hint := fun | 1, 0 => told (bool true) [] [] | 3, 0 => nwH | 4, 1 => told (.agg (viewC v)) [] [] | 4, 2 => dkH 0 (Jrn.jd l1) (int 0) | 6, 1 => opnH 0 l1 x1 | _, _ => .no
  exact run_sound ⟨HH, [((2, 12), ([0,3,4,6,7,8], 6))], fun | 15 => some ⟨[], [13], .take true [0,1,2,3,5,6,7,8,9] (.three 4 10 11 (.two 10 11 (.one 11 (.one 12 (.one 13 .done))) (.one 10 (.one 12 (.one 13 .done)))) (.two 4 11 (.one 11 (.one 12 (.one 13 .done))) (.one 4 (.one 12 (.one 13 .done)))) (.two 4 10 (.one 10 (.one 12 (.one 13 .done))) (.one 4 (.one 12 (.one 13 .done)))))⟩ | 27 => some ⟨[], [6], .take true [0,1,2,3,4] (.one 5 (.one 6 (.take false [7] .done)))⟩ | 37 => some ⟨[], [7,8], .take true [0,1,2,4,5,6] (.one 3 (.one 7 (.one 8 (.take false [9] .done))))⟩ | 18 => some ⟨[], [7], .take true [0,1,2,3,4,5] (.one 6 (.one 7 (.take false [8] .done)))⟩ | 40 => some ⟨[], [33], .take true [0,1,2,3,4,5,6,7,8,9,10,11] (.one 12 (.one 13 (.take true [14,15,16,17,19,20,21,22,23,24] (.one 18 (.one 25 (.take true [26,27,28,29,31,32] (.one 30 (.one 33 (.take false [34,35] .done)))))))))⟩ | _ => none⟩ 400 (by kernel_rfl) (Ya (sp (HH 1 0).P (told_post rfl)) (Yu (Ya new_post (fun (Z0 : Nat) => (fun (Z1 : True) => (Ya (vo (HH 4 1).P (told_post rfl)) (Yu (Ya (mk Z0) (Yu (Ya (op Z0) (fun (Z2 : Nat × Nat × Nat × Value × Array MapEntry × Nat) => (fun (Z3 : True) => (fun (Z4 : Nat) => (lp Γ Z0 Z2.fst Z2.snd.fst Z2.snd.snd.fst Z4 Z2.snd.snd.snd.fst Z2.snd.snd.snd.snd.fst Z2.snd.snd.snd.snd.snd))))))))))))))
end X11
end Go.Proofs.Ytcmcmafeaabjmaa.Vm
