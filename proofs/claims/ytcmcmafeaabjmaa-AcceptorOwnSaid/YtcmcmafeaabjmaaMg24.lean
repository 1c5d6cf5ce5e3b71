/- Texts of this claim: Acc2, AcG, AcK, AcX. -/
import Derived.Test.YtcmcmafeaabjmaaMg19
import Derived.Test.YtcmcmafeaabjmaaMg15
import Derived.Test.YtcmcmafeaabjmaaMg23
namespace Go.Proofs.Ytcmcmafeaabjmaa
namespace Acp
theorem len_sub {α : Type} [DecidableEq α] : ∀ {l m : List α}, l.Nodup → (∀ x ∈ l, x ∈ m) → l.length ≤ m.length
  | [], _, _, _ => Nat.zero_le _
  | a :: l, m, h, hs => by
    obtain ⟨h1, h2⟩ := List.nodup_cons.1 h
    have ha := hs a (List.mem_cons_self ..)
    have := len_sub (l := l) (m := m.erase a) h2 fun x hx => (List.mem_erase_of_ne (fun e => by subst e; exact h1 hx)).2 (hs x (List.mem_cons_of_mem _ hx))
    rw [List.length_erase_of_mem ha] at this
    have := List.length_pos_of_mem ha
    rw [List.length_cons]
    omega
structure Inv (E : Nat → Option En) (frm : Nat) (l : List En) (left : List Int) : Prop where
  nd : (l.map En.slot).Nodup
  m : ∀ y ∈ l, E y.slot = some y ∧ frm ≤ y.slot ∧ (y.slot : Int) ∉ left
  c : ∀ y : En, E y.slot = some y → frm ≤ y.slot → y ∈ l ∨ (y.slot : Int) ∈ left
  lnd : left.Nodup
theorem Inv.put {E : Nat → Option En} {frm : Nat} {l : List En} {left : List Int} (h : Inv E frm l left) (c : En) (hc : E c.slot = some c) (hm : (c.slot : Int) ∈ left) (hf : frm ≤ c.slot) : Inv E frm (l ++ [c]) (left.erase (c.slot : Int)) := by
  refine ⟨?_, fun y hy => ?_, fun y h1 h2 => ?_, h.lnd.erase _⟩
  · rw [List.map_append, List.nodup_append]
    refine ⟨h.nd, by simp, fun a ha b hb e => ?_⟩
    simp only [List.map_cons, List.map_nil, List.mem_singleton] at hb
    subst hb
    obtain ⟨y, hy, rfl⟩ := List.mem_map.1 ha
    exact (h.m y hy).2.2 (e ▸ hm)
  · rcases List.mem_append.1 hy with h1 | h1
    · obtain ⟨a, b, d⟩ := h.m y h1
      exact ⟨a, b, fun e => d (List.mem_of_mem_erase e)⟩
    · obtain rfl := List.mem_singleton.1 h1
      exact ⟨hc, hf, h.lnd.not_mem_erase⟩
  · by_cases e : y.slot = c.slot
    · rw [e, hc] at h1
      injection h1 with h1
      subst h1
      exact .inl (List.mem_append_right _ (List.mem_singleton.2 rfl))
    · rcases h.c y h1 h2 with h3 | h3
      · exact .inl (List.mem_append_left _ h3)
      · exact .inr ((List.mem_erase_of_ne (by omega)).2 h3)
theorem Inv.skip {E : Nat → Option En} {frm : Nat} {l : List En} {left : List Int} (h : Inv E frm l left) (c : En) (hf : ¬ frm ≤ c.slot) : Inv E frm l (left.erase (c.slot : Int)) := by
  refine ⟨h.nd, fun y hy => ?_, fun y h1 h2 => ?_, h.lnd.erase _⟩
  · obtain ⟨a, b, d⟩ := h.m y hy
    exact ⟨a, b, fun e => d (List.mem_of_mem_erase e)⟩
  · rcases h.c y h1 h2 with h3 | h3
    · exact .inl h3
    · exact .inr ((List.mem_erase_of_ne (by omega)).2 h3)
theorem Inv.end_ {E : Nat → Option En} {frm : Nat} {l : List En} (h : Inv E frm l []) {l' : List En} (hp : l'.Perm l) (hs : l'.Pairwise fun a b => a.slot ≤ b.slot) : IsE E frm l' := by
  refine ⟨?_, fun y => ?_⟩
  · have hn : (l'.map En.slot).Nodup := (hp.map _).nodup_iff.2 h.nd
    unfold Srt
    have h2 : l'.Pairwise fun a b => a.slot ≠ b.slot := by
      unfold List.Nodup at hn
      rw [List.pairwise_map] at hn
      exact hn
    exact (List.Pairwise.and hs h2).imp fun ⟨a, b⟩ => by omega
  · rw [hp.mem_iff]
    exact ⟨fun hy => ⟨(h.m y hy).1, (h.m y hy).2.1⟩, fun ⟨a, b⟩ => (h.c y a b).resolve_right (by simp)⟩
theorem Inv.sub {E : Nat → Option En} {frm : Nat} {l L : List En} {left : List Int} (h : Inv E frm l left) (hL : IsE E frm L) : l.length ≤ L.length := by
  have : l.Nodup := by
    have := h.nd
    unfold List.Nodup at this ⊢
    rw [List.pairwise_map] at this
    exact this.imp fun hne e => hne (congrArg _ e)
  exact len_sub this fun y hy => (hL.m y).2 ⟨(h.m y hy).1, (h.m y hy).2.1⟩
end Acp
end Go.Proofs.Ytcmcmafeaabjmaa
namespace Go.Proofs.Ytcmcmafeaabjmaa.Vm
open Go Go.RowKit
set_option maxRecDepth 100000
noncomputable abbrev kAcG0 (l : List Nat) : It := .code (sub (bd Try.f13) l)
noncomputable abbrev wAcG1 (Γ : Ctx) (Q : T → Obs → Glb → Prop) : List It → S → Prop := TWk Try.prog Γ (fin Try.prog Try.f13 [0, 1, 2, 3, 4] Q)
namespace X11
open Acp (En AS Rc blw VOk IsE XOk Inv)
open View (VS Mem)
open X5 (viewC mems memC)
open Jrn (Dk)
open X9 (dkC)
open X10 (strs jC)
theorem enC_ix (y : En) : (enC y).all noIx = true := rfl
theorem flat_ix : ∀ l : List En, (Row.flat enC l).all noIx = true
  | [] => rfl
  | x :: l => by rw [Row.flat_cons, List.all_append, enC_ix x, flat_ix l]; rfl
theorem und_ix (n : Nat) : (List.replicate n T.und).all noIx = true := by
  induction n with
  | zero => rfl
  | succ n ih => rw [List.replicate_succ, List.all_cons, ih]; rfl
theorem enF_of {E : Nat → Option En} (hE : ∀ k y, E k = some y → y.slot = k) {y : Int} {t : T} (h : enF E y = some t) : ∃ c : En, y = (c.slot : Int) ∧ E c.slot = some c ∧ t = .agg (enC c) := by
  unfold enF at h
  split at h
  · rename_i hy
    cases hc : E y.toNat with
    | none => rw [hc] at h; cases h
    | some c =>
      rw [hc] at h
      injection h with h
      have := hE _ _ hc
      exact ⟨c, by omega, by rw [this]; exact hc, h.symm⟩
  · cases h
theorem enF_at {E : Nat → Option En} {c : En} (h : E c.slot = some c) : enF E (c.slot : Int) = some (.agg (enC c)) := by
  unfold enF
  rw [if_pos (by omega), Int.toNat_natCast, h]; rfl
theorem snoc_row (l : List En) (c : En) (R : List T) : setCells (Row.flat enC l ++ R) (0 + l.length * 8) (enC c) = Row.flat enC (l ++ [c]) ++ R.drop 8 := by
  have hl : (Row.flat enC l).length = l.length * 8 := Row.flat_len enC_len l
  unfold setCells
  rw [Nat.zero_add, ← hl, List.take_left, Row.flat_app, enC_len, List.drop_append, List.drop_of_length_le (by omega)]
  simp [Row.flat]
section
variable (db jb ab mb : Nat) (d : Dk) (l : List (List UInt8)) (hd : Value) (dead : Bool) (x : AS) (es : Array MapEntry) (ck : Nat) (Γ : Ctx) (frm ib : Nat) (Q : T → Obs → Glb → Prop)
theorem en_doneS (L : List En) (hL : IsE x.E frm L) (hl16 : L.length ≤ 16) (hQ : Q (.sl 8 (Row.aggs enC L)) (obsA db jb ab mb d l hd dead x es ck) none_) (e : List En) (R : List T) (hx : R.all noIx = true) (g cap : Nat) (cur : Option Int) (left : List Int) (h0 : left = []) (h : Inv x.E frm e left) :
    wAcG1 Γ Q [kAcG0 [1,1,1,0,1,0], .blk 0, kAcG0 [1,1,1,1]] ⟨frame 31 [(1, u32 frm), (5, .sa 6 g 0 e.length cap), (15, .ptr 5 ib 0)], obsA db jb ab mb d l hd dead x es ck ++ [(ib, .iter 4 mb .u32 es ck left cur), (g, .cells (Row.flat enC e ++ R))], none_⟩ := by
  subst h0
  have hs := h.sub hL
  obtain ⟨e', hp⟩ : ∃ e' : List En, e' = L := ⟨L, rfl⟩
  have hu : ∀ l' : List En, l'.Perm e → l'.Pairwise (fun a b => a.slot ≤ b.slot) → l' = L := fun l' h1 h2 => (h.end_ h1 h2).uniq hL
  have hn : e.length = L.length := by
    refine Nat.le_antisymm hs (Acp.len_sub (by have := hL.s; unfold Acp.Srt at this; exact this.imp fun hlt e => by subst e; omega) fun y hy => ?_)
    have := (hL.m y).1 hy
    exact (h.c y this.1 this.2).resolve_right (by simp)
  refine en_endS db jb ab mb d l hd dead x es ck Γ frm ib Q g e.length cap _ [] cur rfl (Row.flat enC L ++ R) (by rw [List.all_append, flat_ix, hx]; rfl) (by rw [List.all_append, flat_ix, hx]; rfl)
    (fun Q' hq => sort_any g e.length cap e R rfl (by omega) Q' fun l' h1 h2 => by rw [hu l' h1 h2]; exact hq) ?_
  exact TWk.impM (en_ret db jb ab mb d l hd dead x es ck Γ ib Q (Row.aggs enC L) [] cur hQ) (ImpM.slot (i := 6) (b := g) true 8 5 (Row.aggs enC L) rfl rfl (fun h => by cases h) (Row.fz_len enC_len rfl hn) (Row.fz_one enC_len enC_one rfl hn) (Row.fz_es enC_len rfl hn))
theorem en_loopS (hE : ∀ k y, x.E k = some y → y.slot = k) (L : List En) (hL : IsE x.E frm L) (hl16 : L.length ≤ 16) (hQ : Q (.sl 8 (Row.aggs enC L)) (obsA db jb ab mb d l hd dead x es ck) none_) : ∀ (n : Nat) (left : List Int) (e : List En) (R : List T) (g cap : Nat) (cur : Option Int), left.length = n → R.all noIx = true → e.length * 8 + R.length = cap * 8 → Inv x.E frm e left →
    wAcG1 Γ Q [kAcG0 [1,1,1,0,1,0], .blk 0, kAcG0 [1,1,1,1]] ⟨frame 31 [(1, u32 frm), (5, .sa 6 g 0 e.length cap), (15, .ptr 5 ib 0)], obsA db jb ab mb d l hd dead x es ck ++ [(ib, .iter 4 mb .u32 es ck left cur), (g, .cells (Row.flat enC e ++ R))], none_⟩ := by
  intro n
  induction n with
  | zero =>
    intro left e R g cap cur hn hx hR h
    exact en_doneS db jb ab mb d l hd dead x es ck Γ frm ib Q L hL hl16 hQ e R hx g cap cur left (List.eq_nil_of_length_eq_zero hn) h
  | succ n ih =>
    intro left e R g cap cur hn hx hR h
    have hs := h.sub hL
    refine en_nextS db jb ab mb d l hd dead x es ck Γ frm ib Q g e.length cap _ left cur (fun e => by subst e; simp at hn) fun y t hy ht => ?_
    obtain ⟨c, rfl, hc, rfl⟩ := enF_of hE ht
    have hlen : (left.erase (c.slot : Int)).length = n := by rw [List.length_erase_of_mem hy]; omega
    have hfl : (Row.flat enC e).length = e.length * 8 := Row.flat_len enC_len e
    have hl1 : (e ++ [c]).length = e.length + 1 := by simp
    refine en_bodyS db jb ab mb d l hd dead x es ck Γ frm ib Q g e.length cap _ _ _ _ _ c (enF_at hc) (by omega) (fun hcap => by rw [List.length_append]; omega) (snoc_row e c R) (by rw [List.length_append]; omega) (by rw [Row.takes enC_len]; exact Row.one enC_one e) rfl (fun hf hcap => ?_) (fun hf g2 cap2 hcap => ?_) (fun hf => ?_)
    · have := ih (left.erase (c.slot : Int)) (e ++ [c]) (R.drop 8) g cap (some (c.slot : Int)) hlen (by
        rw [List.all_eq_true] at hx ⊢
        exact fun z hz => hx z (List.mem_of_mem_drop hz)) (by rw [hl1, List.length_drop]; omega) (h.put c hc hy (by omega))
      rw [hl1] at this
      exact this
    · have := ih (left.erase (c.slot : Int)) (e ++ [c]) (List.replicate ((cap2 - (e.length + 1)) * 8) .und) g2 cap2 (some (c.slot : Int)) hlen (und_ix _) (by rw [hl1, List.length_replicate]; omega) (h.put c hc hy (by omega))
      rw [hl1] at this
      rw [Row.takes enC_len]
      rw [Row.flat_app] at this
      have e1 : Row.flat enC [c] = enC c := by simp [Row.flat]
      rw [e1] at this
      exact this
    · exact ih (left.erase (c.slot : Int)) e R g cap (some (c.slot : Int)) hlen hx hR (h.skip c (by omega))
theorem en_loopN (hE : ∀ k y, x.E k = some y → y.slot = k) (L : List En) (hL : IsE x.E frm L) (hl16 : L.length ≤ 16) (hQ : Q (.sl 8 (Row.aggs enC L)) (obsA db jb ab mb d l hd dead x es ck) none_) (hN : L = [] → Q (.v nilS) (obsA db jb ab mb d l hd dead x es ck) none_) : ∀ (n : Nat) (left : List Int) (cur : Option Int), left.length = n → Inv x.E frm [] left →
    wAcG1 Γ Q [kAcG0 [1,1,1,0,1,0], .blk 0, kAcG0 [1,1,1,1]] ⟨frame 31 [(1, u32 frm), (5, .v nilS), (15, .ptr 5 ib 0)], obsA db jb ab mb d l hd dead x es ck ++ [(ib, .iter 4 mb .u32 es ck left cur)], none_⟩ := by
  intro n
  induction n with
  | zero =>
    intro left cur hn h
    have h0 : left = [] := List.eq_nil_of_length_eq_zero hn
    subst h0
    refine en_endN db jb ab mb d l hd dead x es ck Γ frm ib Q [] cur rfl (fun Q' hq => sort_nil Q' hq) (hN ?_)
    cases L with
    | nil => rfl
    | cons y L =>
      have := (hL.m y).1 (List.mem_cons_self ..)
      exact absurd (h.c y this.1 this.2) (by simp)
  | succ n ih =>
    intro left cur hn h
    refine en_nextN db jb ab mb d l hd dead x es ck Γ frm ib Q left cur (fun e => by subst e; simp at hn) fun y t hy ht => ?_
    obtain ⟨c, rfl, hc, rfl⟩ := enF_of hE ht
    have hlen : (left.erase (c.slot : Int)).length = n := by rw [List.length_erase_of_mem hy]; omega
    refine en_bodyN db jb ab mb d l hd dead x es ck Γ frm ib Q _ _ c (enF_at hc) (fun hf g cap hcap => ?_) (fun hf => ?_)
    · have := en_loopS db jb ab mb d l hd dead x es ck Γ frm ib Q hE L hL hl16 hQ n (left.erase (c.slot : Int)) [c] (List.replicate ((cap - 1) * 8) .und) g cap (some (c.slot : Int)) hlen (und_ix _) (by rw [List.length_replicate]; show 1 * 8 + _ = _; omega) (h.put c hc hy (by omega))
      have e1 : Row.flat enC [c] = enC c := by simp [Row.flat]
      rw [e1] at this
      exact this
    · exact ih (left.erase (c.slot : Int)) (some (c.slot : Int)) hlen (h.skip c (by omega))
end
section
variable (db jb ab mb : Nat) (d : Dk) (l : List (List UInt8)) (hd : Value) (dead : Bool) (x : AS) (es : Array MapEntry) (ck : Nat)
theorem enF_some {E : Nat → Option En} {y : En} (h : E y.slot = some y) : (enF E (y.slot : Int)).isSome = true := by rw [enF_at h]; rfl
theorem entries_raw (hx : XOk x) (frm : Nat) (L : List En) (hL : IsE x.E frm L) (Q : T → Obs → Glb → Prop) (hQ : Q (.sl 8 (Row.aggs enC L)) (obsA db jb ab mb d l hd dead x es ck) none_) (hN : L = [] → Q (.v nilS) (obsA db jb ab mb d l hd dead x es ck) none_) : TCalls Try.prog 13 [.ptr 3 ab 0, u32 frm] (obsA db jb ab mb d l hd dead x es ck) none_ Q := by
  have lp := fun Γ ib left (hnd : left.Nodup) (hm : ∀ y, y ∈ left ↔ (enF x.E y).isSome = true) => en_loopN db jb ab mb d l hd dead x es ck Γ frm ib Q (fun k y h => (hx.E k y h).1) L hL (hx.len hL) hQ hN left.length left none rfl
    ⟨List.nodup_nil, (fun y hy => nomatch hy), (fun y h1 _ => .inr ((hm _).2 (enF_some h1))), hnd⟩
  clear hQ hN
  refine TCalls.of Try.func13 rfl (CanCall.of Try.func13 rfl (by decide)) [0,1,2,3,4] fun Γ => ?_
  let HH : Nat → Nat → Hint := fun _ _ => .no
  exact run_sound ⟨HH, [((2, 5), ([1,5,15], 6))], fun _ => none⟩ 400 (by kernel_rfl) (Yb ab (Yb mb (fun (Z0 : Nat) => (fun (Z1 : List Int) => (fun (Z2 : List.Nodup Z1) => (fun (Z3 : ∀ (z : Int), z ∈ Z1 ↔ Option.isSome (enF x.E z) = true) => (lp Γ Z0 Z1 Z2 Z3)))))))
theorem entries_any (hx : XOk x) (frm : Nat) (L : List En) (hL : IsE x.E frm L) (Q : T → Obs → Glb → Prop) (hQ : Q (.sl 8 (Row.aggs enC L)) (obsA db jb ab mb d l hd dead x es ck) none_) : TCalls Try.prog 13 [.ptr 3 ab 0, u32 frm] (obsA db jb ab mb d l hd dead x es ck) none_ Q :=
  TCalls.post (entries_raw db jb ab mb d l hd dead x es ck hx frm L hL (fun r ob gl => (r = .sl 8 (Row.aggs enC L) ∨ r = .v nilS ∧ L = []) ∧ ob = obsA db jb ab mb d l hd dead x es ck ∧ gl = none_) ⟨.inl rfl, rfl, rfl⟩ fun h => ⟨.inr ⟨rfl, h⟩, rfl, rfl⟩) (by
    rintro r ob gl ⟨h, rfl, rfl⟩
    rcases h with rfl | ⟨rfl, rfl⟩
    · exact ⟨_, _, _, Imp.slotR (j := 0) rfl fun M v h => h, hQ⟩
    · exact ⟨.sl 8 [], _, _, Imp.slotR (ts := [.v nilS]) (j := 0) (t' := .sl 8 []) rfl (fun M v h => by
        simp only [Rel] at h ⊢
        exact ⟨none, 0, h, ⟨Nat.le_refl _, by omega, fun _ => ⟨rfl, rfl⟩, fun a _ h => absurd h (by omega)⟩, by simp [El], fun _ _ _ => by simp only [RelE]⟩), hQ⟩)
end
end X11
end Go.Proofs.Ytcmcmafeaabjmaa.Vm
namespace Go.Proofs.Ytcmcmafeaabjmaa.Vm
open Go Go.RowKit
set_option maxRecDepth 100000
namespace X11
open Acp (En AS Rc blw VOk IsE XOk)
open View (VS Mem)
open X5 (viewC mems memC firstM firstL)
open Jrn (Dk)
open X9 (dkC obsK dkH dk_post)
open X10 (strs jC obsJ)
theorem new_post : TCalls Try.prog 7 [] [] none_ (callPost nwH) := X9.dnew_any _ fun b => ⟨b, trivial, rfl, rfl, Nat.zero_le _, fun h => by cases h⟩
def opnP (db : Nat) (l : List (List UInt8)) (x : AS) : Hint := .call false (Nat × Nat × Nat × Value × Array MapEntry × Nat) (fun _ => True) [0] false (fun a => .tup [.ptr 3 a.2.1 0, int 0]) (fun a => obsA db a.1 a.2.1 a.2.2.1 (Jrn.jd l) l a.2.2.2.1 false x a.2.2.2.2.1 a.2.2.2.2.2) (fun _ => none_)
def opnH (i : Nat) (l : List (List UInt8)) (x : AS) : Hint := .withB fun B => .call false (Nat × Nat × Nat × Value × Array MapEntry × Nat) (fun _ => True) [i] false (fun a => .tup [.ptr 3 a.2.1 0, int 0]) (fun a => obsA (B.getD i 0) a.1 a.2.1 a.2.2.1 (Jrn.jd l) l a.2.2.2.1 false x a.2.2.2.2.1 a.2.2.2.2.2) (fun _ => none_)
theorem opn_post (db self : Nat) (v : VS) (hg : 1 ≤ self ∧ self ≤ 5) (hv8 : VOk v) (rs : List Rc) (hR : ∀ r ∈ rs, r.Ok) (hn : rs.length ≤ 100000) (l : List (List UInt8)) (hl : l = (Rc.birth self 0 v :: rs).map Rc.b) (hv : Jrn.Vs l) (x : AS) (hx : Acp.run Acp.st0 (Rc.birth self 0 v :: rs) = x) :
    TCalls Try.prog 10 [.ptr 0 db 0, u8 self] (obsK db (Jrn.jd l)) none_ (callPost (opnP db l x)) :=
  open_ok db self v hg hv8 rs hR hn l hl hv _ fun jb ab mb hd es ck => ⟨(jb, ab, mb, hd, es, ck), trivial, rfl, by rw [hx], Nat.le_of_ble_eq_true rfl, fun h => by cases h⟩
def acP (db jb ab mb : Nat) (y : T) (l : List (List UInt8)) (x : AS) : Hint := .call false (Value × Array MapEntry × Nat) (fun _ => True) [0,1,2,3,4] false (fun _ => y) (fun a => obsA db jb ab mb (Jrn.jd l) l a.1 false x a.2.1 a.2.2) (fun _ => none_)
def acH (i j r a m : Nat) (y : T) (l : List (List UInt8)) (x : AS) : Hint := .withB fun B => .call false (Value × Array MapEntry × Nat) (fun _ => True) [i, j, r, a, m] false (fun _ => y) (fun c => obsA (B.getD i 0) (B.getD j 0) (B.getD a 0) (B.getD m 0) (Jrn.jd l) l c.1 false x c.2.1 c.2.2) (fun _ => none_)
theorem ac_post {db jb ab mb : Nat} {y : T} {l : List (List UInt8)} {x : AS} (hd : Value) (es : Array MapEntry) (ck : Nat) : callPost (acP db jb ab mb y l x) y (obsA db jb ab mb (Jrn.jd l) l hd false x es ck) none_ := ⟨(hd, es, ck), trivial, rfl, rfl, Nat.le_of_ble_eq_true rfl, fun h => by cases h⟩
theorem isE_one (x : AS) (hE : ∀ k, x.E k = none) (y : En) : IsE (Acp.accept x y).E 0 [y] := by
  have e1 : (Acp.accept x y).E = Acp.upE x.E y.slot y := rfl
  refine ⟨List.pairwise_singleton _ _, fun z => ?_⟩
  rw [e1, List.mem_singleton]
  unfold Acp.upE
  constructor
  · rintro rfl
    exact ⟨if_pos rfl, Nat.zero_le _⟩
  · rintro ⟨h, -⟩
    split at h
    · injection h with h; exact h.symm
    · rw [hE] at h; cases h
def v2 : VS := ⟨1, firstM 2, firstL 2⟩
theorem v2_ok : VOk v2 := by
  have := vw_ok 1 (by decide)
  exact ⟨by decide, by decide, by show (firstM 2).length ≤ 8; decide, this.ms, this.L⟩
def y9 : En := ⟨0, 1, 2, 9, 1, 0, 9, 4⟩
theorem y9_ok : y9.Ok := ⟨by decide, by decide, by decide, by decide, by decide, by decide, by decide, by decide⟩
def x1 : AS := Acp.cut Acp.st0 0 v2
def x2 : AS := Acp.accept x1 y9
def x3 : AS := Acp.promise x2 2 1
def l1 : List (List UInt8) := [(Rc.birth 1 0 v2).b]
def l2 : List (List UInt8) := l1 ++ [(Rc.acc y9).b]
def l3 : List (List UInt8) := l2 ++ [(Rc.prom 2 1).b]
theorem x1_ok : XOk x1 := Acp.xok_zero.cut (by decide) v2_ok
theorem x2_ok : XOk x2 := x1_ok.accept y9_ok (by decide) (by decide)
theorem vs_add {l : List (List UInt8)} (h : Jrn.Vs l) {r : Rc} (hr : r.Ok) (h2 : (Jrn.flat l).length + 70 ≤ 1048576) : Jrn.Vs (l ++ [r.b]) ∧ (Jrn.flat (l ++ [r.b])).length ≤ (Jrn.flat l).length + 70 := by
  have hb := (Rc.b_len hr).2
  have e : (Jrn.flat (l ++ [r.b])).length = (Jrn.flat l).length + (r.b.length + 6) := by
    unfold Jrn.flat
    rw [List.flatMap_append, List.length_append]
    simp [Jrn.frL_len]
  refine ⟨⟨fun t ht => ?_, by omega⟩, by omega⟩
  rcases List.mem_append.1 ht with h1 | h1
  · exact h.1 t h1
  · rw [List.mem_singleton.1 h1]; exact Rc.vr hr
theorem vs_one (self : Nat) (hs : self < 256) (v : VS) (hv : VOk v) : Jrn.Vs [(Rc.birth self 0 v).b] ∧ (Jrn.flat [(Rc.birth self 0 v).b]).length ≤ 70 := by
  have := vs_add Jrn.vs_nil (r := .birth self 0 v) ⟨hs, by decide, hv⟩ (by decide)
  exact ⟨this.1, Nat.le_trans this.2 (by decide)⟩
set_option maxRecDepth 4000 in
theorem speaks_any (Q : T → Obs → Glb → Prop) (hQ : Q (bool true) [] none_) : TCalls Try.prog 6 [] [] none_ Q := by
  obtain ⟨a1, a2⟩ := vs_one 1 (by decide) v2 v2_ok
  obtain ⟨b1, b2⟩ := vs_add (l := l1) a1 (r := .acc y9) y9_ok (by have : (Jrn.flat l1).length ≤ 70 := a2; omega)
  have a2 : (Jrn.flat l1).length ≤ 70 := a2
  have b2 : (Jrn.flat l2).length ≤ (Jrn.flat l1).length + 70 := b2
  have fi : TCalls Try.prog 30 [int 2] [] none_ (callPost (told (.tup [.agg (viewC v2), int 0]) [] [])) := X5.first_any 2 _ (fun h => by omega) fun k h1 _ _ => by
    have : k = 2 := by omega
    subst this
    exact told_post rfl
  have mk := fun db => make_new db 1 v2 (by decide) v2_ok (callPost (told (int 0) [0] (obsK db (Jrn.jd l1)))) (told_post rfl)
  have op := fun db => opn_post db 1 v2 (by decide) v2_ok [] (fun _ h => nomatch h) (by decide) l1 rfl a1 x1 rfl
  have ac := fun db jb ab mb hd es ck => acc_new db jb ab mb l1 hd x1 es ck a1 (by omega) y9 y9_ok (by decide) (by decide) (by decide) (callPost (acP db jb ab mb (int 0) l2 x2)) fun hd es ck => ac_post hd es ck
  have hE := isE_one x1 (fun k => by show (if k < 0 then none else none) = none; split <;> rfl) y9
  have pr := fun db jb ab mb hd es ck => prep_new db jb ab mb l2 hd x2 es ck b1 (by omega) 2 1 0 (by decide) (by decide) (by decide) (by decide) (by decide) [y9] (callPost (acP db jb ab mb (.tup [.sl 8 (Row.aggs enC [y9]), int 0]) l3 x3))
    (fun hd es ck Q' hq => entries_any db jb ab mb _ _ hd false _ es ck (x2_ok.promise (by decide) (by decide)) 0 [y9] (by rw [(Acp.promise_E x2 2 1).1]; exact hE) Q' hq) fun hd es ck => ac_post hd es ck
  have ba := fun db jb ab mb hd es ck => base_any db jb ab mb (Jrn.jd l3) l3 hd false x3 es ck (by decide) (callPost (told (.tup [u32 0, .agg (viewC v2)]) [0,1,2,3,4] (obsA db jb ab mb (Jrn.jd l3) l3 hd false x3 es ck))) (told_post rfl)
  have bl := fun (n b : Nat) => lballot_any n b (callPost (told (.agg [u32 n, u8 b]) [] [])) (told_post rfl)
  have bl1 := bl 1 2
  have bl2 := bl 2 1
  have cm : TCalls Try.prog 18 [u32 9] [] none_ (callPost (told (.agg [u8 9, u8 1, u8 0, u32 9, u32 4]) [] [])) := lcommand_any 9 _ (told_post rfl)
  generalize l1 = l1 at *
  generalize l2 = l2 at *
  generalize l3 = l3 at *
  generalize x1 = x1 at *
  generalize x2 = x2 at *
  generalize x3 = x3 at *
  refine TCalls.of Try.func6 rfl (CanCall.of Try.func6 rfl (by decide)) [] fun Γ => ?_
  let HH : Nat → Nat → Hint := fun | 1, 0 => nwH | 2, 0 => told (.tup [.agg (viewC v2), int 0]) [] [] | 3, 2 => dkH 0 (Jrn.jd l1) (int 0) | 4, 1 => opnH 0 l1 x1 | 5, 1 => told (.agg [u32 1, u8 2]) [] [] | 5, 2 => told (.agg [u8 9, u8 1, u8 0, u32 9, u32 4]) [] [] | 5, 3 => acH 0 2 3 4 5 (int 0) l2 x2 | 6, 1 => told (.agg [u32 2, u8 1]) [] [] | 6, 2 => acH 0 2 3 4 5 (.tup [.sl 8 (Row.aggs enC [y9]), int 0]) l3 x3 | 7, 1 => keepH [0,2,3,4,5] (.tup [u32 0, .agg (viewC v2)]) | 8, 33 => told (.agg [u32 1, u8 2]) [] [] | 8, 34 => told (.agg [u8 9, u8 1, u8 0, u32 9, u32 4]) [] [] | _, _ => .no
  let z2 := [u32 v2.e, T.sl 3 [T.agg [u8 (Mem.mk (nat_lit 0 + 1) 1 true).node, u8 (Mem.mk (nat_lit 0 + 1) 1 true).life, bool true], T.agg [u8 (Mem.mk (nat_lit 1 + 1) 1 true).node, u8 (Mem.mk (nat_lit 1 + 1) 1 true).life, bool true]], u8 (v2.L 0), u8 (v2.L 1), u8 (v2.L 2), u8 (v2.L 3), u8 (v2.L 4), u8 (v2.L 5), u8 (v2.L 6), u8 (v2.L 7)]
  let z0 := fun (Z0 : Nat) (Z2 : Nat) (Z3 : Nat × Nat × Nat × Value × Array MapEntry × Nat) => List.map (fun x => x.fst) [(Z0, Ob.cells [T.v (Value.string (ByteArray.mk (List.toArray (Jrn.jd l1).b))), int (Jrn.jd l1).n, bool false]), (Z2, Ob.cells z2), (Z3.fst, Ob.cells [T.ptr 0 Z0 0, T.slx 1 3 (strs l1) Z3.snd.snd.snd.fst, bool false]), (0, Ob.room 1 9 (List.length (strs l1)) Z3.snd.snd.snd.fst), (Z3.snd.fst, Ob.cells [T.ptr 2 Z3.fst 0, u32 x1.pn, u8 x1.pb, u32 x1.low, u32 x1.v.e, T.sl 3 (mems x1.v.ms), u8 (x1.v.L 0), u8 (x1.v.L 1), u8 (x1.v.L 2), u8 (x1.v.L 3), u8 (x1.v.L 4), u8 (x1.v.L 5), u8 (x1.v.L 6), u8 (x1.v.L 7), T.mp 5 Z3.snd.snd.fst]), (Z3.snd.snd.fst, Ob.map IntKind.u32 (enF x1.E) Z3.snd.snd.snd.snd.fst Z3.snd.snd.snd.snd.snd)]
  let z1 := fun (Z0 : Nat) (Z2 : Nat) (Z3 : Nat × Nat × Nat × Value × Array MapEntry × Nat) (Z5 : Value × Array MapEntry × Nat) => List.map (fun x => x.fst) [(Z0, Ob.cells [T.v (Value.string (ByteArray.mk (List.toArray (Jrn.jd l2).b))), int (Jrn.jd l2).n, bool false]), (Z2, Ob.cells z2), (List.getD (z0 Z0 Z2 Z3) 2 0, Ob.cells [T.ptr 0 Z0 0, T.slx 1 3 (strs l2) Z5.fst, bool false]), (0, Ob.room 1 9 (List.length (strs l2)) Z5.fst), (List.getD (z0 Z0 Z2 Z3) 4 0, Ob.cells [T.ptr 2 (List.getD (z0 Z0 Z2 Z3) 2 0) 0, u32 x2.pn, u8 x2.pb, u32 x2.low, u32 x2.v.e, T.sl 3 (mems x2.v.ms), u8 (x2.v.L 0), u8 (x2.v.L 1), u8 (x2.v.L 2), u8 (x2.v.L 3), u8 (x2.v.L 4), u8 (x2.v.L 5), u8 (x2.v.L 6), u8 (x2.v.L 7), T.mp 5 (List.getD (z0 Z0 Z2 Z3) 5 0)]), (List.getD (z0 Z0 Z2 Z3) 5 0, Ob.map IntKind.u32 (enF x2.E) Z5.snd.fst Z5.snd.snd)]
  exact run_sound ⟨HH, [], fun | 8 => some ⟨[6], [], .take true [0,1,2,3,4,5,6,7,8,9,10,11,12,13,14,15,16,17,18,19,20,21,22,23,24,25,26,27,28,29,30,31,32] (.one 33 (.one 34 (.take true [35,36,37,38] .done)))⟩ | _ => none⟩ 400 (by kernel_rfl) (Ya new_post (fun (Z0 : Nat) => (fun (Z1 : True) => (Ya fi (Yu (fun (Z2 : Nat) => (Yk 10 Z2 (Yb Z2 (Ya (mk Z0) (Yu (Ya (op Z0) (fun (Z3 : Nat × Nat × Nat × Value × Array MapEntry × Nat) => (fun (Z4 : True) => (Ya bl1 (Yu (Ya cm (Yu (Ya (ac Z0 Z3.fst Z3.snd.fst Z3.snd.snd.fst Z3.snd.snd.snd.fst Z3.snd.snd.snd.snd.fst Z3.snd.snd.snd.snd.snd) (fun (Z5 : Value × Array MapEntry × Nat) => (fun (Z6 : True) => (Ya bl2 (Yu (Ya (pr Z0 (List.getD (z0 Z0 Z2 Z3) 2 0) Z3.snd.fst (List.getD (z0 Z0 Z2 Z3) 5 0) Z5.fst Z5.snd.fst Z5.snd.snd) (fun (Z7 : Value × Array MapEntry × Nat) => (fun (Z8 : True) => (Ya (ba Z0 (List.getD (z1 Z0 Z2 Z3 Z5) 2 0) Z3.snd.fst (List.getD (z1 Z0 Z2 Z3 Z5) 5 0) Z7.fst Z7.snd.fst Z7.snd.snd) (Yu (fun (Z9 : Nat) => (Yk 10 Z9 (Yb Z9 (Ya (show (0 : Int) ≤ (0 : Int) by omega) (Ya bl1 (Yu (Ya cm (Yu hQ)))))))))))))))))))))))))))))))))))
end X11
end Go.Proofs.Ytcmcmafeaabjmaa.Vm
namespace Go.Proofs.Ytcmcmafeaabjmaa.Vm
open Go Go.RowKit
set_option maxRecDepth 100000
noncomputable abbrev kAcX0 (l : List Nat) : It := .code (sub (bd Try.f17) l)
noncomputable abbrev kAcX1 (l : List Nat) : It := .code (sub (bd Try.f30) l)
noncomputable abbrev wAcX2 (Γ : Ctx) (Q : T → Obs → Glb → Prop) : List It → S → Prop := TWk Try.prog Γ (fin Try.prog Try.f30 [2] Q)
def plAcX0 : Nat → Option RPlan := fun | 7 => some ⟨[], [8], .take true [0,1,2,3,4,5,6,7] (.one 8 (.take false [9] .done))⟩ | _ => none
namespace X11
open Acp (En AS Rc blw VOk IsE XOk)
open View (VS Mem)
open X5 (viewC mems memC firstM firstL vwT obsF)
open Jrn (Dk)
open X9 (dkC obsK dkH dk_post)
open X10 (strs jC obsJ)
theorem ad_off (db jb : Nat) (l : List (List UInt8)) (hl : (Jrn.flat l).length ≤ 1048576) (h : Value) (s : List UInt8) (hs : Jrn.Vr s) : TCalls Try.prog 35 [.ptr 1 jb 0, str s] (obsJ db jb (jo l) l h false) none_ (callPost (told (int 10) [0,1,2] (obsJ db jb (jo l) l h true))) :=
  X10.add_fail db jb (jo l) ⟨Nat.le_refl _, hl⟩ l h s hs 10 rfl (by decide) _ fun _ e => told_post e
section
variable (db jb ab mb : Nat) (l : List (List UInt8)) (hd : Value) (x : AS) (es : Array MapEntry) (ck : Nat)
theorem write_off (hl : (Jrn.flat l).length ≤ 1048576) (s : List UInt8) (hs : Jrn.Vr s) (Q : T → Obs → Glb → Prop) (hQ : Q (int 10) (obsA db jb ab mb (jo l) l hd true x es ck) none_) :
    TCalls Try.prog 45 [.ptr 3 ab 0, str s] (obsA db jb ab mb (jo l) l hd false x es ck) none_ Q := by
  have ap := ad_off db jb l hl hd s hs
  clear hl hs
  generalize jo l = d0 at *
  refine TCalls.of Try.func45 rfl (CanCall.of Try.func45 rfl (by decide)) [0,1,2,3,4] fun Γ => ?_
  let HH : Nat → Nat → Hint := fun | 1, 5 => .withB fun B => told (int 10) [0,1,2] (X10.obsJ (B.getD 0 0) (B.getD 1 0) d0 l hd true) | _, _ => .no
  exact run_sound ⟨HH, [], fun  | _ => none⟩ 400 (by kernel_rfl) (Yb ab (Ya ap (Yu hQ)))
theorem acc_off (hl : (Jrn.flat l).length ≤ 1048576) (y : En) (hy : y.Ok) (h : ¬ y.slot < x.low) (h16 : y.slot < x.low + 16) (hb : blw y.n y.b x.pn x.pb = false) (Q : T → Obs → Glb → Prop)
    (hQ : Q (int 10) (obsA db jb ab mb (jo l) l hd true x es ck) none_) : TCalls Try.prog 17 [.ptr 3 ab 0, .agg [u32 y.n, u8 y.b], u32 y.slot, .agg [u8 y.kind, u8 y.node, u8 y.life, u32 y.ep, u32 y.rq]] (obsA db jb ab mb (jo l) l hd false x es ck) none_ Q := by
  have hc : T.v (.int .u32 (IntKind.wrap .u32 ((y.slot : Int) - (x.low : Int)))) = u32 (y.slot - x.low : Nat) := congrArg u32 (by have := hy.slot; rw [IntWalk.u32_in _ (by omega)]; omega)
  have bl := fun Q' hq => below_any y.n y.b x.pn x.pb Q' hq
  rw [hb] at bl
  have pr := fun Q' hq => accepted_any y hy Q' hq
  have wr := fun Q' hq => write_off db jb ab mb l hd x es ck hl (Rc.acc y).b (Rc.vr (r := .acc y) hy) Q' hq
  clear hl hb hy
  generalize (Rc.acc y).b = s at *
  generalize jo l = d0 at *
  refine TCalls.of Try.func17 rfl (CanCall.of Try.func17 rfl (by decide)) [0,1,2,3,4] fun Γ => ?_
  let HH : Nat → Nat → Hint := fun | 5, 6 => .res (u32 (y.slot - x.low : Nat)) | 7, 8 => told (bool false) [] [] | 9, 5 => told (str s) [] [] | 9, 6 => .withB fun B => told (int 10) [0,1,2,3,4] (obsA (B.getD 0 0) (B.getD 1 0) (B.getD 3 0) (B.getD 4 0) d0 l hd true x es ck) | _, _ => .no
  let z0 := fun (Z0 : Nat) (Z1 : Nat) => S.mk (frame 46 []) [(db, Ob.cells [T.v (Value.string (ByteArray.mk (List.toArray d0.b))), int d0.n, bool d0.off]), (jb, Ob.cells [T.ptr 0 db 0, T.slx 1 2 (strs l) hd, bool false]), (0, Ob.room 1 9 (List.length (strs l)) hd), (ab, Ob.cells [T.ptr 1 jb 0, u32 x.pn, u8 x.pb, u32 x.low, u32 x.v.e, T.sl 3 (mems x.v.ms), u8 (x.v.L 0), u8 (x.v.L 1), u8 (x.v.L 2), u8 (x.v.L 3), u8 (x.v.L 4), u8 (x.v.L 5), u8 (x.v.L 6), u8 (x.v.L 7), T.mp 4 mb]), (mb, Ob.map IntKind.u32 (enF x.E) es ck), (Z0, Ob.cells [u32 y.n, u8 y.b]), (Z1, Ob.cells [u8 y.kind, u8 y.node, u8 y.life, u32 y.ep, u32 y.rq])] fun x => none
  exact run_sound ⟨HH, [((0, 4), ([], 7)), ((0, 6), ([], 7))], fun | 7 => some ⟨[3,5], [8], .take true [0,1,2,3,4,5,6,7] (.one 8 (.take false [9] .done))⟩ | n => plAcX0 n⟩ 400 (by kernel_rfl) (fun (Z0 : Nat) => (fun (Z1 : Nat) => (Yb ab (Ys (decide ((↑y.slot : Int) < (↑x.low : Int))) (fun Z2 => (show TWk Try.prog Γ (fin Try.prog Try.f17 [0,1,2,3,4] Q) [kAcX0 [1,0,0,1,1,1,0], It.blk 0, kAcX0 [1,1]] (z0 Z0 Z1) by exfalso; have := of_decide_eq_true Z2; omega)) (fun Z3 => (Yb ab (Ya hc (Ys (decide ((↑(y.slot - x.low) : Int) ≥ (16 : Int))) (fun Z4 => (show TWk Try.prog Γ (fin Try.prog Try.f17 [0,1,2,3,4] Q) [kAcX0 [1,0,0,1,1,1,1,1,0], It.blk 0, kAcX0 [1,1]] (z0 Z0 Z1) by exfalso; have := of_decide_eq_true Z4; omega)) (fun Z5 => (Yb Z0 (Yb ab (Ya (bl (HH 7 8).P (fun _ h => told_post h)) (Yu (Yb Z0 (Yb Z1 (Ya (pr (HH 9 5).P (told_post rfl)) (Yu (Ya (wr (callPost (Hint.call false Unit (fun x => True) [0,1,2,3,4] false (fun x => int (10 : Int)) (fun x_1 => obsA db jb ab mb d0 l hd true x es ck) fun x => none_)) (told_post rfl)) (Yu hQ)))))))))))))))))))
theorem trunc_wide (d : Dk) (low : Nat) (v : VS) (h8 : 8 < v.ms.length) (h9 : v.ms.length ≤ 1000) (Q : T → Obs → Glb → Prop) (hQ : Q (int 1) (obsA db jb ab mb d l hd false x es ck) none_) : TCalls Try.prog 19 [.ptr 3 ab 0, u32 low, .agg (viewC v)] (obsA db jb ab mb d l hd false x es ck) none_ Q := by
  have ho := fun Q' hq => holds_any v (by omega) Q' hq
  rw [decide_eq_false (by omega)] at ho
  refine TCalls.of Try.func19 rfl (CanCall.of Try.func19 rfl (by decide)) [0,1,2,3,4] fun Γ => ?_
  let HH : Nat → Nat → Hint := fun | 1, 4 => told (bool false) [] [] | _, _ => .no
  exact run_sound ⟨HH, [], fun  | _ => none⟩ 400 (by kernel_rfl) (fun (Z0 : Nat) => (Yb Z0 (Ya (ho (HH 1 4).P (told_post rfl)) (Yu hQ))))
end
section
variable (Q : T → Obs → Glb → Prop)
theorem prep_nil (n b f : Nat) (hQ : Q (.tup [.v nilS, int 1]) [] none_) : TCalls Try.prog 15 [.v (.pointer none), .agg [u32 n, u8 b], u32 f] [] none_ Q := by
  refine TCalls.of Try.func15 rfl (CanCall.of Try.func15 rfl (by decide)) [] fun Γ => ?_
  let HH : Nat → Nat → Hint := fun  | _, _ => .no
  exact run_sound ⟨HH, [], fun | 5 => some ⟨[], [8], .take true [0,1,2,3,4,5,6,7] (.one 8 (.take false [9] .done))⟩ | 7 => some ⟨[], [8], .take true [0,1,2,3,4,5,6,7] (.one 8 .done)⟩ | _ => none⟩ 400 (by kernel_rfl) (fun (Z0 : Nat) => hQ)
theorem acc_nil (n b slot c : Nat) (hQ : Q (int 1) [] none_) : TCalls Try.prog 17 [.v (.pointer none), .agg [u32 n, u8 b], u32 slot, cmd c] [] none_ Q := by
  unfold cmd
  refine TCalls.of Try.func17 rfl (CanCall.of Try.func17 rfl (by decide)) [] fun Γ => ?_
  let HH : Nat → Nat → Hint := fun  | _, _ => .no
  exact run_sound ⟨HH, [], plAcX0⟩ 400 (by kernel_rfl) (fun (Z0 : Nat) => (fun (Z1 : Nat) => hQ))
theorem trunc_nil (low : Nat) (v : VS) (hQ : Q (int 1) [] none_) : TCalls Try.prog 19 [.v (.pointer none), u32 low, .agg (viewC v)] [] none_ Q := by
  refine TCalls.of Try.func19 rfl (CanCall.of Try.func19 rfl (by decide)) [] fun Γ => ?_
  let HH : Nat → Nat → Hint := fun _ _ => .no
  exact run_sound ⟨HH, [], fun _ => none⟩ 400 (by kernel_rfl) (fun (Z0 : Nat) => hQ)
theorem base_nil (hQ : Q (.tup [u32 0, .agg [u32 0, .v nilS, u8 0, u8 0, u8 0, u8 0, u8 0, u8 0, u8 0, u8 0]]) [] none_) : TCalls Try.prog 14 [.v (.pointer none)] [] none_ Q := by
  refine TCalls.of Try.func14 rfl (CanCall.of Try.func14 rfl (by decide)) [] fun Γ => ?_
  let HH : Nat → Nat → Hint := fun  | _, _ => .no
  exact run_sound ⟨HH, [], fun | 5 => some ⟨[], [7], .take true [0,1,2,3,4,5,6] (.one 7 .done)⟩ | _ => none⟩ 400 (by kernel_rfl) (fun (Z0 : Nat) => (Yk 10 Z0 (Yb Z0 hQ)))
theorem prm_nil (hQ : Q (.agg [u32 0, u8 0]) [] none_) : TCalls Try.prog 12 [.v (.pointer none)] [] none_ Q := by
  refine TCalls.of Try.func12 rfl (CanCall.of Try.func12 rfl (by decide)) [] fun Γ => ?_
  let HH : Nat → Nat → Hint := fun _ _ => .no
  exact run_sound ⟨HH, [], fun _ => none⟩ 400 (by kernel_rfl) (fun (Z0 : Nat) => (Yk 2 Z0 (Yb Z0 hQ)))
theorem ent_nil (f : Nat) (hQ : Q (.v nilS) [] none_) : TCalls Try.prog 13 [.v (.pointer none), u32 f] [] none_ Q := by
  refine TCalls.of Try.func13 rfl (CanCall.of Try.func13 rfl (by decide)) [] fun Γ => ?_
  let HH : Nat → Nat → Hint := fun _ _ => .no
  exact run_sound ⟨HH, [], fun _ => none⟩ 400 (by kernel_rfl) hQ
theorem none_zero (hQ : Q (bool true) [] none_) : TCalls Try.prog 23 [.agg [u32 0, u8 0]] [] none_ Q := by
  refine TCalls.of Try.func23 rfl (CanCall.of Try.func23 rfl (by decide)) [] fun Γ => ?_
  let HH : Nat → Nat → Hint := fun _ _ => .no
  exact run_sound ⟨HH, [], fun _ => none⟩ 400 (by kernel_rfl) (fun (Z0 : Nat) => (Yb Z0 hQ))
end
theorem keep_zero (l : List (List UInt8)) : Jrn.keepD (Jrn.jd l) 0 = Jrn.jd [] := by
  unfold Jrn.keepD Jrn.jd; simp [Jrn.flat]
theorem wipe_any (b : Nat) (l : List (List UInt8)) (Q : T → Obs → Glb → Prop) (hQ : Q (.tup []) (obsK b (Jrn.jd [])) none_) : TCalls Try.prog 22 [.ptr 0 b 0] (obsK b (Jrn.jd l)) none_ Q := by
  have kp := fun Q' hq => X9.keep_any b (Jrn.jd l) 0 (Nat.zero_le _) Q' hq
  rw [keep_zero] at kp
  generalize Jrn.jd [] = d1 at *
  generalize Jrn.jd l = d0 at *
  refine TCalls.of Try.func22 rfl (CanCall.of Try.func22 rfl (by decide)) [0] fun Γ => ?_
  let HH : Nat → Nat → Hint := fun | 1, 1 => dkH 0 d1 (.tup []) | _, _ => .no
  exact run_sound ⟨HH, [], fun  | _ => none⟩ 400 (by kernel_rfl) (Ya (kp (callPost (told (T.tup []) [0] (obsK b d1))) (dk_post rfl)) (Yu hQ))
section
variable (Γ : Ctx) (b0 b1 n : Nat) (Q : T → Obs → Glb → Prop)
theorem f8_end (hd : Value) (hQ : Q (.tup [.agg (vwT 1 (.slx 3 0 (mems (firstM n)) hd) (firstL n)), int 0]) [(0, .room 3 61 (mems (firstM n)).length hd)] none_) : wAcX2 Γ Q [kAcX1 [1,1,1,0,1,0], .blk 0, kAcX1 [1,1,1,1]] ⟨frame 32 [(2, .ptr 0 b0 0), (4, .ptr 1 b1 0), (14, int n), (15, int n)], obsF b0 b1 n hd, none_⟩ := by
  let HH : Nat → Nat → Hint := fun _ _ => .no
  exact run_sound ⟨HH, [((0, 6), ([2,4,14,15], 3))], fun _ => none⟩ 400 (by kernel_rfl) (Ys (decide ((↑n : Int) < (↑n : Int))) (fun Z0 => (show wAcX2 Γ Q [kAcX1 [1,1,1,0,1,0,0,1,1,0,0], It.blk 1, kAcX1 [1,1,1,0,1,0,0,1,1,1], kAcX1 [1,1,1,0,1,0], It.blk 0, kAcX1 [1,1,1,1]] (S.mk (frame 32 [(2, T.ptr 0 b0 0), (4, T.ptr 1 b1 0), (14, int n), (15, int n)]) [(b0, Ob.cells [u32 (0 : Int), T.v (Value.slice none 0 0), u8 (0 : Int), u8 (0 : Int), u8 (0 : Int), u8 (0 : Int), u8 (0 : Int), u8 (0 : Int), u8 (0 : Int), u8 (0 : Int)]), (b1, Ob.cells [u32 (1 : Int), T.slx 3 2 (mems (firstM n)) hd, u8 (firstL n 0), u8 (firstL n 1), u8 (firstL n 2), u8 (firstL n 3), u8 (firstL n 4), u8 (firstL n 5), u8 (firstL n 6), u8 (firstL n 7)]), (0, Ob.room 3 61 (List.length (mems (firstM n))) hd)] fun x => none) by exfalso; have := of_decide_eq_true Z0; omega)) (fun Z1 => (Yb b1 (Yk 10 b0 (Yb b0 hQ)))))
theorem f8_step (hn : n ≤ 8) (j : Nat) (hj : j < n) (hd : Value) (nx : ∀ hd, wAcX2 Γ Q [kAcX1 [1,1,1,0,1,0], .blk 0, kAcX1 [1,1,1,1]] ⟨frame 32 [(2, .ptr 0 b0 0), (4, .ptr 1 b1 0), (14, int n), (15, int (j + 1 : Nat))], obsF b0 b1 (j + 1) hd, none_⟩) : wAcX2 Γ Q [kAcX1 [1,1,1,0,1,0], .blk 0, kAcX1 [1,1,1,1]] ⟨frame 32 [(2, .ptr 0 b0 0), (4, .ptr 1 b1 0), (14, int n), (15, int j)], obsF b0 b1 j hd, none_⟩ := by
  have hw : T.v (.int .u8 (IntKind.wrap .u8 (IntKind.wrap .i64 ((j : Int) + 1)))) = u8 (j + 1 : Nat) := congrArg u8 (by rw [wrap_i64 (by omega) (by omega), IntWalk.u8_in _ (by omega)]; omega)
  have hw1 : T.v (.int .i64 (IntKind.wrap .i64 ((j : Int) + 1))) = int (j + 1 : Nat) := congrArg int (by rw [wrap_i64 (by omega) (by omega)]; omega)
  have hw2 : T.v (.int .u8 (IntKind.wrap .u8 ((j + 1 : Nat) : Int))) = u8 (j + 1 : Nat) := congrArg u8 (by rw [IntWalk.u8_in _ (by omega)])
  have hl : (mems (firstM j)).length = j := by rw [X5.mems_len, X5.firstM_len]
  simp only [obsF, ← X5.first_set j (by omega), X5.firstM_succ] at nx
  let HH : Nat → Nat → Hint := fun | 7, 3 => .res (int (j + 1 : Nat)) | 7, 4 => .res (u8 (j + 1 : Nat)) | 9, 0 => .res (int (j + 1 : Nat)) | _, _ => .no
  exact run_sound ⟨HH, [((2, 5), ([2,4,14,15], 3)), ((0, 10), ([2,4], 3))], fun  | _ => none⟩ 400 (by kernel_rfl) (Ys (decide ((↑j : Int) < (↑n : Int))) (fun Z0 => (Yb b1 (Ya hw1 (Ya hw2 (Ya (Yb hd (Ye (List.length (mems (firstM j))))) (Ya (show Fits (List.length (mems (firstM j)) + 1) (nat_lit 3) by simp only [maxLen, Fits]; omega) (fun (Z1 : Value) => (Yl 1 (Yb b1 (Ya (Yn (2) (10) rfl) (Yi (↑j : Int) 8 (by omega) (Yl 1 (Yb b1 (Ya (show 2 + Int.toNat (↑j : Int) * nat_lit 1 + nat_lit 1 ≤ 10 by simp only [maxLen, Fits]; omega) (Ya hw1 (nx Z1)))))))))))))))) (fun Z2 => (show wAcX2 Γ Q [kAcX1 [1,1,1,1]] (S.mk (frame 32 [(2, T.ptr 0 b0 0), (4, T.ptr 1 b1 0)]) [(b0, Ob.cells [u32 (0 : Int), T.v (Value.slice none 0 0), u8 (0 : Int), u8 (0 : Int), u8 (0 : Int), u8 (0 : Int), u8 (0 : Int), u8 (0 : Int), u8 (0 : Int), u8 (0 : Int)]), (b1, Ob.cells [u32 (1 : Int), T.slx 3 2 (mems (firstM j)) hd, u8 (firstL j 0), u8 (firstL j 1), u8 (firstL j 2), u8 (firstL j 3), u8 (firstL j 4), u8 (firstL j 5), u8 (firstL j 6), u8 (firstL j 7)]), (0, Ob.room 3 61 (List.length (mems (firstM j))) hd)] fun x => none) by exfalso; have := of_decide_eq_false Z2; omega)))
end
end X11
end Go.Proofs.Ytcmcmafeaabjmaa.Vm
