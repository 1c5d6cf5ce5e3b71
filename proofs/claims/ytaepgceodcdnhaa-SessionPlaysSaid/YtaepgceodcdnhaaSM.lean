/- Sessions by the engine: SessionPlays. -/
import Derived.Test.YtaepgceodcdnhaaSL
namespace Go.Proofs.Ytaepgceodcdnhaa.Vm
open Go Go.RowKit
set_option maxRecDepth 100000
namespace X22
open Ses (Cl put lost lose at_ open_ opn cnt Rc Tb)
open Jrn (Dk flat)
open X9 (dkC obsK dkH dk_post)
open X10 (strs jC keepH nwH)
/-- a table's records and the document's table, before act i -/
structure PInv (rs : List Rc) (lf : Nat) (cs : List (Nat × Cl)) (i : Nat) : Prop where
  fo : foF rs 0 nof = (lf, Ses.fn cs)
  ok : RsOk rs (i + 1)
  tb : Tb.Ok ⟨lf, cs⟩
  lf : lf ≤ i + 1
theorem PInv.keep {rs : List Rc} {lf : Nat} {cs : List (Nat × Cl)} {i : Nat} (h : PInv rs lf cs i) (hi : i < 80) : PInv rs lf cs (i + 1) :=
  ⟨h.fo, ⟨h.ok.ok, Nat.le_succ_of_le h.ok.cnt, by omega⟩, h.tb, Nat.le_succ_of_le h.lf⟩
theorem PInv.put {rs : List Rc} {lf : Nat} {cs : List (Nat × Cl)} {i : Nat} (h : PInv rs lf cs i) (hi : i < 80) (r : Rc) (hr : r.Ok) (s : Nat) (c : Cl) (hs : s < 4294967296 ∧ c.q < 4294967296 ∧ c.e < 256 ∧ c.x.length ≤ 255) (hl : (Ses.look cs s).isSome = true ∨ cs.length < 8)
    (hst : ∀ f, stF lf f r = (lf, upF f s c)) : PInv (rs ++ [r]) lf (put cs s c) (i + 1) where
  fo := by
    rw [foF_snoc, h.fo, hst, Ses.fn_put]; rfl
  ok := h.ok.snoc r hr (by omega)
  tb := h.tb.put hs hl
  lf := Nat.le_succ_of_le h.lf
theorem PInv.live {rs : List Rc} {lf : Nat} {cs : List (Nat × Cl)} {i : Nat} (h : PInv rs lf cs i) (hi : i < 80) : PInv (rs ++ [.live (lf + 1)]) (lf + 1) (lose cs) (i + 1) where
  fo := by rw [foF_snoc, h.fo, Ses.fn_lose]; rfl
  ok := h.ok.snoc _ (by have := h.lf; show lf + 1 < 256; omega) (by omega)
  tb := h.tb.lose (lf + 1)
  lf := by have := h.lf; omega
theorem crash_jd (l : List (List UInt8)) (k : Int) : Jrn.startD (Jrn.crashD (Jrn.jd l) k) = Jrn.jd l := by
  have e : Jrn.crashN (Jrn.jd l) k = (flat l).length := by
    unfold Jrn.crashN
    show (flat l).length + min (max k 0).toNat ((flat l).length - (flat l).length) = (flat l).length
    omega
  unfold Jrn.crashD
  rw [if_neg (show ¬ (Jrn.jd l).off = true from Bool.false_ne_true), e]
  unfold Jrn.startD
  show (⟨(flat l).take (flat l).length, (flat l).length, false⟩ : Dk) = ⟨flat l, (flat l).length, false⟩
  rw [List.take_length]
structure Act.Ok (a : Act) : Prop where
  s : a.s < 4294967296
  q : a.q < 4294967296
  e : a.e < 256
def txt (a : Act) : List UInt8 := a.x.take 40
theorem fn_keys {cs : List (Nat × Cl)} (h : (cs.map (·.1)).Nodup) : (Ses.keys cs).Nodup ∧ (∀ z, z ∈ Ses.keys cs ↔ (Ses.fn cs z).isSome = true) ∧ cs.length = (Ses.keys cs).length := ⟨Ses.keys_nodup h, Ses.keys_mem cs, by unfold Ses.keys; rw [List.length_map]⟩
section
variable (Γ : Ctx) (acts : List T) (db jb tb mb b6 b7 i : Nat) (a : Act) (ha : a.Ok) (hi : i < 80) (rs : List Rc) (hd : Value) (lf : Nat) (cs : List (Nat × Cl)) (es : Array MapEntry) (ck : Nat) (Q : T → Obs → Glb → Prop) (h : PInv rs lf cs i)
  (nx : ∀ rs' lf' cs' jb tb mb hd es ck, PInv rs' lf' cs' (i + 1) → TWk Try.prog Γ (fin Try.prog Try.f8 [] Q) [.code (sub (bd Try.f8) [1, 1, 1, 1, 1, 1, 0, 1, 0]), .blk 0, .code (sub (bd Try.f8) [1, 1, 1, 1, 1, 1, 1])] ⟨frame 218 [(0, .sl 7 acts), (3, .ptr 0 db 0), (4, .ptr 3 tb 0), (6, .ptr 5 b6 0), (7, int (i + 1 : Nat))], obsP db jb tb mb b6 (Jrn.jd (bsR rs')) (bsR rs') hd lf' (Ses.fn cs') cs' es ck, none_⟩)
include hi nx
theorem pl_next (rs' : List Rc) (lf' : Nat) (cs' : List (Nat × Cl)) (h' : PInv rs' lf' cs' (i + 1)) (jb tb mb : Nat) (hd : Value) (es : Array MapEntry) (ck : Nat) :
    TWk Try.prog Γ (fin Try.prog Try.f8 [] Q) [.code (sub (bd Try.f8) [1, 1, 1, 1, 1, 1, 0, 1, 0, 0, 1, 0, 0, 1, 1, 1]), .blk 1, .code (sub (bd Try.f8) [1, 1, 1, 1, 1, 1, 0, 1, 0, 0, 1, 1]), .code (sub (bd Try.f8) [1, 1, 1, 1, 1, 1, 0, 1, 0]), .blk 0, .code (sub (bd Try.f8) [1, 1, 1, 1, 1, 1, 1])] ⟨frame 218 [(0, .sl 7 acts), (3, .ptr 0 db 0), (4, .ptr 3 tb 0), (6, .ptr 5 b6 0), (7, int i), (8, .ptr 6 b7 0)], obsQ db jb tb mb b6 b7 a (Jrn.jd (bsR rs')) (bsR rs') hd lf' (Ses.fn cs') cs' es ck, none_⟩ :=
  pl_tail Γ acts db jb tb mb b6 b7 i a _ _ hd lf' cs' es ck Q (by have := h'.lf; omega) hi h'.tb.n (by have := h'.tb.l; show cs'.length ≤ 1000; have h2 : cs'.length ≤ 8 := this; omega) (nx rs' lf' cs' jb tb mb hd es ck h')
include ha h
theorem pl_round : TWk Try.prog Γ (fin Try.prog Try.f8 [] Q) [.code (sub (bd Try.f8) [1, 1, 1, 1, 1, 1, 0, 1, 0, 0, 1, 0, 0, 1, 1]), .blk 1, .code (sub (bd Try.f8) [1, 1, 1, 1, 1, 1, 0, 1, 0, 0, 1, 1]), .code (sub (bd Try.f8) [1, 1, 1, 1, 1, 1, 0, 1, 0]), .blk 0, .code (sub (bd Try.f8) [1, 1, 1, 1, 1, 1, 1])] ⟨frame 218 [(0, .sl 7 acts), (3, .ptr 0 db 0), (4, .ptr 3 tb 0), (6, .ptr 5 b6 0), (7, int i), (8, .ptr 6 b7 0), (9, str (txt a))], obsQ db jb tb mb b6 b7 a (Jrn.jd (bsR rs)) (bsR rs) hd lf (Ses.fn cs) cs es ck, none_⟩ := by
  have h8 : cs.length ≤ 8 := h.tb.l
  have hl : cs.length ≤ 1000 := by omega
  have hlf := h.lf
  have tl := pl_next Γ acts db b6 b7 i a hi Q nx
  have stay : ∀ (x : T) (P : T → Obs → Glb → Prop), P = callPost (tP db jb tb mb (Jrn.jd (bsR rs)) (bsR rs) false lf (Ses.fn cs) x) → ∀ y, y = x → P y (obsT db jb tb mb (Jrn.jd (bsR rs)) (bsR rs) hd false lf (Ses.fn cs) es ck) none_ := fun x P hP y hy => by
    subst hP
    exact ⟨(hd, es, ck), trivial, hy, rfl, Nat.le_of_ble_eq_true rfl, fun h => by cases h⟩
  by_cases h34 : a.w % 7 = 3 ∨ a.w % 7 = 4
  · by_cases hx : 32 < (txt a).length
    · exact pl_end Γ acts db jb tb mb b6 b7 i a _ _ _ _ hd lf (Ses.fn cs) (Ses.fn cs) cs cs es ck (txt a) Q ha.e h34 1
        (end_long db jb tb mb _ _ hd false lf _ es ck a.s a.q a.e a.h (txt a) hx _ (stay _ _ rfl)) (rend_long lf cs (a.s, ⟨a.q, false, a.e, a.h, txt a⟩) hx) (tl rs lf cs (h.keep hi) jb tb mb)
    · have hx : (txt a).length ≤ 32 := by omega
      cases hk : Ses.look cs a.s with
      | none =>
        exact pl_end Γ acts db jb tb mb b6 b7 i a _ _ _ _ hd lf (Ses.fn cs) (Ses.fn cs) cs cs es ck (txt a) Q ha.e h34 7
          (end_none db jb tb mb _ _ hd false lf _ es ck a.s a.q a.e a.h (txt a) hx (by rw [Ses.fn_nat]; exact hk) _ (stay _ _ rfl)) (rend_none lf cs hl (a.s, ⟨a.q, false, a.e, a.h, txt a⟩) hx hk) (tl rs lf cs (h.keep hi) jb tb mb)
      | some c =>
        by_cases hco : c.q = a.q ∧ c.o = true
        · have hr : (Rc.fin a.s a.q a.e a.h (txt a)).Ok := ⟨ha.s, ha.q, ha.e, by omega⟩
          have h' := h.put hi (.fin a.s a.q a.e a.h (txt a)) hr a.s ⟨a.q, false, a.e, a.h, txt a⟩ ⟨ha.s, ha.q, ha.e, by show (txt a).length ≤ 255; omega⟩ (.inl (by rw [hk]; rfl)) (fun _ => rfl)
          have e := Ses.fn_put cs a.s ⟨a.q, false, a.e, a.h, txt a⟩
          have hE := en_post db jb tb mb hd lf (Ses.fn cs) es ck rs (i + 1) h.ok a.s a.q ha.s ha.q a.e ha.e a.h (txt a) hx c (by rw [Ses.fn_nat]; exact hk) hco.1 hco.2
          have hE : TCalls Try.prog 23 [.ptr 3 tb 0, u32 a.s, u32 a.q, ansT a.e a.h (txt a)] (obsT db jb tb mb (Jrn.jd (bsR rs)) (bsR rs) hd false lf (Ses.fn cs) es ck) none_ (callPost (tP db jb tb mb (Jrn.jd (bsR (rs ++ [.fin a.s a.q a.e a.h (txt a)]))) (bsR (rs ++ [.fin a.s a.q a.e a.h (txt a)])) false lf (Ses.fn (put cs a.s ⟨a.q, false, a.e, a.h, txt a⟩)) (int 0))) := by rw [e]; exact hE
          exact pl_end Γ acts db jb tb mb b6 b7 i a _ _ _ _ hd lf (Ses.fn cs) _ cs _ es ck (txt a) Q ha.e h34 0 hE (rend_ok lf cs hl (a.s, ⟨a.q, false, a.e, a.h, txt a⟩) hx c hk hco.1 hco.2) (tl _ lf _ h' jb tb mb)
        · have hco : c.q ≠ a.q ∨ c.o = false := by
            by_cases hq : c.q = a.q
            · exact .inr (by cases ho : c.o with | false => rfl | true => exact absurd ⟨hq, ho⟩ hco)
            · exact .inl hq
          exact pl_end Γ acts db jb tb mb b6 b7 i a _ _ _ _ hd lf (Ses.fn cs) (Ses.fn cs) cs cs es ck (txt a) Q ha.e h34 7
            (end_other db jb tb mb _ _ hd false lf _ es ck a.s a.q a.e a.h (txt a) hx c (by rw [Ses.fn_nat]; exact hk) hco _ (stay _ _ rfl)) (rend_other lf cs hl (a.s, ⟨a.q, false, a.e, a.h, txt a⟩) hx c hk hco) (tl rs lf cs (h.keep hi) jb tb mb)
  · have hRL := rlive_any lf (by omega) cs hl _ (fun x hx => told_post (sel := []) (ob := []) hx)
    have hfl := Ses.fn_lose cs
    have h' := h.live hi
    have hst := st_post db rs h.ok.ok h.ok.vs (lf, Ses.fn cs) h.fo (by show lf < 200; omega) (by have := h.ok.le; omega)
    have hst : TCalls Try.prog 22 [.ptr 0 db 0] (obsK db (Jrn.jd (bsR rs))) none_ (callPost (stP db (Jrn.jd (bsR (rs ++ [.live (lf + 1)]))) (bsR (rs ++ [.live (lf + 1)])) (lf + 1) (Ses.fn (lose cs)))) := by rw [hfl]; exact hst
    by_cases h5 : a.w % 7 = 5
    · have hL := live_ok db jb tb mb (bsR rs) h.ok.vs hd lf (by omega) (Ses.fn cs) es ck (by have := h.ok.le; omega) (callPost (tP db jb tb mb (Jrn.jd (bsR (rs ++ [.live (lf + 1)]))) (bsR (rs ++ [.live (lf + 1)])) false (lf + 1) (Ses.fn (lose cs)) (int 0))) (by
        rw [hfl, bsR_snoc]
        exact fun h es ck => ⟨(h, es, ck), trivial, rfl, rfl, Nat.le_of_ble_eq_true rfl, fun h => by cases h⟩)
      exact pl_live Γ acts db jb tb mb b6 b7 i a _ _ _ _ hd lf (lf + 1) (Ses.fn cs) _ cs (lose cs) es ck (txt a) Q h5 hL hRL (tl _ (lf + 1) _ h' jb tb mb)
    · by_cases h6 : a.w % 7 = 6
      · have hC := X9.crash_any db _ h.ok.vs.ok a.k (callPost (told (.tup []) [0] (obsK db (Jrn.crashD (Jrn.jd (bsR rs)) a.k)))) (dk_post rfl)
        have hD := X9.start_any db (Jrn.crashD (Jrn.jd (bsR rs)) a.k) (callPost (told (.tup []) [0] (obsK db (Jrn.jd (bsR rs))))) (by rw [crash_jd]; exact dk_post rfl)
        exact pl_rest Γ acts db jb tb mb b6 b7 i a _ _ _ _ hd lf (lf + 1) (Ses.fn cs) _ cs (lose cs) es ck (txt a) Q h6 _ hC hD hst hRL (fun jb tb mb => tl _ (lf + 1) _ h' jb tb mb)
      · have hw : ¬ a.w % 7 = 3 ∧ ¬ a.w % 7 = 4 ∧ ¬ a.w % 7 = 5 ∧ ¬ a.w % 7 = 6 := ⟨fun e => h34 (.inl e), fun e => h34 (.inr e), h5, h6⟩
        by_cases hq : a.q = 0
        · have hB := begin_zero db jb tb mb (Jrn.jd (bsR rs)) (bsR rs) hd false lf (Ses.fn cs) es ck a.s _ (stay _ _ rfl)
          have hR := rbegin_zero lf cs a.s
          refine pl_beg Γ acts db jb tb mb b6 b7 i a _ _ _ _ hd lf (Ses.fn cs) (Ses.fn cs) cs cs es ck (txt a) Q hw 4 1 false [] ?_ ?_ (tl rs lf cs (h.keep hi) jb tb mb)
          · rw [hq]; exact hB
          · rw [hq]; exact hR
        · have new : ∀ (hlk : (Ses.look cs a.s).isSome = true ∨ cs.length < 8),
              TCalls Try.prog 24 [.ptr 3 tb 0, u32 a.s, u32 a.q] (obsT db jb tb mb (Jrn.jd (bsR rs)) (bsR rs) hd false lf (Ses.fn cs) es ck) none_ (callPost (tP db jb tb mb (Jrn.jd (bsR (rs ++ [.beg a.s a.q]))) (bsR (rs ++ [.beg a.s a.q])) false lf (upF (Ses.fn cs) a.s ⟨a.q, true, 0, false, []⟩) (tellT 1 0 false []))) →
              TCalls Try.prog 31 [.agg (rtC lf cs), u32 a.s, u32 a.q] [] none_ (callPost (told (rbT lf (put cs a.s ⟨a.q, true, 0, false, []⟩) 1 0 false []) [] [])) →
              TWk Try.prog Γ (fin Try.prog Try.f8 [] Q) [.code (sub (bd Try.f8) [1, 1, 1, 1, 1, 1, 0, 1, 0, 0, 1, 0, 0, 1, 1]), .blk 1, .code (sub (bd Try.f8) [1, 1, 1, 1, 1, 1, 0, 1, 0, 0, 1, 1]), .code (sub (bd Try.f8) [1, 1, 1, 1, 1, 1, 0, 1, 0]), .blk 0, .code (sub (bd Try.f8) [1, 1, 1, 1, 1, 1, 1])] ⟨frame 218 [(0, .sl 7 acts), (3, .ptr 0 db 0), (4, .ptr 3 tb 0), (6, .ptr 5 b6 0), (7, int i), (8, .ptr 6 b7 0), (9, str (txt a))], obsQ db jb tb mb b6 b7 a (Jrn.jd (bsR rs)) (bsR rs) hd lf (Ses.fn cs) cs es ck, none_⟩ := fun hlk hB hR => by
            have hr : (Rc.beg a.s a.q).Ok := ⟨ha.s, ha.q⟩
            have h' := h.put hi (.beg a.s a.q) hr a.s ⟨a.q, true, 0, false, []⟩ ⟨ha.s, ha.q, (show 0 < 256 by decide), (show 0 ≤ 255 by decide)⟩ hlk (fun _ => rfl)
            have e := Ses.fn_put cs a.s ⟨a.q, true, 0, false, []⟩
            have hB : TCalls Try.prog 24 [.ptr 3 tb 0, u32 a.s, u32 a.q] (obsT db jb tb mb (Jrn.jd (bsR rs)) (bsR rs) hd false lf (Ses.fn cs) es ck) none_ (callPost (tP db jb tb mb (Jrn.jd (bsR (rs ++ [.beg a.s a.q]))) (bsR (rs ++ [.beg a.s a.q])) false lf (Ses.fn (put cs a.s ⟨a.q, true, 0, false, []⟩)) (tellT 1 0 false []))) := by rw [e]; exact hB
            exact pl_beg Γ acts db jb tb mb b6 b7 i a _ _ _ _ hd lf (Ses.fn cs) _ cs _ es ck (txt a) Q hw 1 0 false [] hB hR (tl _ lf _ h' jb tb mb)
          cases hk : Ses.look cs a.s with
          | none =>
            have hf : Ses.fn cs (a.s : Int) = none := by rw [Ses.fn_nat]; exact hk
            have hkeys := fn_keys h.tb.n
            by_cases hf8 : 8 ≤ cs.length
            · exact pl_beg Γ acts db jb tb mb b6 b7 i a _ _ _ _ hd lf (Ses.fn cs) (Ses.fn cs) cs cs es ck (txt a) Q hw 4 6 false []
                (begin_full db jb tb mb _ _ hd lf _ es ck false a.s a.q hq hf cs.length _ hkeys hf8 _ (stay _ _ rfl)) (rbegin_full lf cs hl a.s a.q hq hk hf8) (tl rs lf cs (h.keep hi) jb tb mb)
            · exact new (.inr (by omega)) (bgN_post db jb tb mb hd lf (Ses.fn cs) es ck rs (i + 1) h.ok a.s a.q ha.s hq ha.q hf cs.length _ hkeys (by omega)) (rbegin_new lf cs hl a.s a.q hq hk (by omega))
          | some c =>
            have hf : Ses.fn cs (a.s : Int) = some c := by rw [Ses.fn_nat]; exact hk
            by_cases ho : a.q ≤ c.q ∨ c.o = true
            · have hB := fun P hP => begin_old db jb tb mb (Jrn.jd (bsR rs)) (bsR rs) hd false lf (Ses.fn cs) es ck a.s a.q hq c hf ho _ (stay (begT c a.q) P hP)
              have hR := rbegin_old lf cs hl a.s a.q hq c hk ho
              unfold begT rbOld at *
              by_cases e1 : c.q = a.q
              · rw [if_pos e1] at hB hR
                cases e2 : c.o with
                | true =>
                  rw [e2] at hB hR
                  exact pl_beg Γ acts db jb tb mb b6 b7 i a _ _ _ _ hd lf (Ses.fn cs) (Ses.fn cs) cs cs es ck (txt a) Q hw 2 0 false [] (hB _ rfl) hR (tl rs lf cs (h.keep hi) jb tb mb)
                | false =>
                  rw [e2] at hB hR
                  exact pl_beg Γ acts db jb tb mb b6 b7 i a _ _ _ _ hd lf (Ses.fn cs) (Ses.fn cs) cs cs es ck (txt a) Q hw 3 c.e c.h c.x (hB _ rfl) hR (tl rs lf cs (h.keep hi) jb tb mb)
              · rw [if_neg e1] at hB hR
                by_cases e3 : a.q < c.q
                · rw [if_pos e3] at hB hR
                  exact pl_beg Γ acts db jb tb mb b6 b7 i a _ _ _ _ hd lf (Ses.fn cs) (Ses.fn cs) cs cs es ck (txt a) Q hw 4 14 false [] (hB _ rfl) hR (tl rs lf cs (h.keep hi) jb tb mb)
                · rw [if_neg e3] at hB hR
                  exact pl_beg Γ acts db jb tb mb b6 b7 i a _ _ _ _ hd lf (Ses.fn cs) (Ses.fn cs) cs cs es ck (txt a) Q hw 4 8 false [] (hB _ rfl) hR (tl rs lf cs (h.keep hi) jb tb mb)
            · have ho2 : c.o = false := by cases e : c.o with | false => rfl | true => exact absurd (.inr e) ho
              exact new (.inl (by rw [hk]; rfl)) (bgS_post db jb tb mb hd lf (Ses.fn cs) es ck rs (i + 1) h.ok a.s a.q ha.s hq ha.q c hf (by omega) ho2) (rbegin_newS lf cs hl a.s a.q hq c hk (by omega) ho2)
end
theorem txt_cut (x : List UInt8) (n : Nat) (h : n = 40 ∧ 40 ≤ x.length ∨ n = x.length ∧ x.length ≤ 40) : T.v (.string ((⟨x.toArray⟩ : ByteArray).extract 0 n)) = str (x.take 40) := by
  rw [X1.str_cut]
  rcases h with ⟨rfl, _⟩ | ⟨rfl, h⟩
  · rfl
  · rw [List.take_of_length_le (Nat.le_refl _), List.take_of_length_le h]; rfl
theorem acts_at {A : List Act} {i : Nat} {a : Act} (h : A[i]? = some a) : (Row.aggs actC A)[((i : Nat) : Int).toNat]? = some (.agg (actC a)) := Row.aggs_at (by rw [Int.toNat_natCast]; exact h)
theorem pl_loop (Γ : Ctx) (A : List Act) (hA : ∀ a ∈ A, a.Ok) (db b6 : Nat) (Q : T → Obs → Glb → Prop) (hQ : ∀ x, x = bool true → Q x [] none_) : ∀ (n i : Nat), i + n = 80 → ∀ (rs : List Rc) (lf : Nat) (cs : List (Nat × Cl)) (jb tb mb : Nat) (hd : Value) (es : Array MapEntry) (ck : Nat), PInv rs lf cs i →
    TWk Try.prog Γ (fin Try.prog Try.f8 [] Q) [.code (sub (bd Try.f8) [1, 1, 1, 1, 1, 1, 0, 1, 0]), .blk 0, .code (sub (bd Try.f8) [1, 1, 1, 1, 1, 1, 1])] ⟨frame 218 [(0, actsT A), (3, .ptr 0 db 0), (4, .ptr 3 tb 0), (6, .ptr 5 b6 0), (7, int i)], obsP db jb tb mb b6 (Jrn.jd (bsR rs)) (bsR rs) hd lf (Ses.fn cs) cs es ck, none_⟩ := by
  have hal : (Row.aggs actC A).length = A.length := Row.aggs_len A
  have out : ∀ (i : Nat), 80 ≤ i ∨ A.length ≤ i → ∀ (d : Dk) (l : List (List UInt8)) (lf : Nat) (f : Int → Option Cl) (cs : List (Nat × Cl)) (jb tb mb : Nat) (hd : Value) (es : Array MapEntry) (ck : Nat),
      TWk Try.prog Γ (fin Try.prog Try.f8 [] Q) [.code (sub (bd Try.f8) [1, 1, 1, 1, 1, 1, 0, 1, 0]), .blk 0, .code (sub (bd Try.f8) [1, 1, 1, 1, 1, 1, 1])] ⟨frame 218 [(0, actsT A), (3, .ptr 0 db 0), (4, .ptr 3 tb 0), (6, .ptr 5 b6 0), (7, int i)], obsP db jb tb mb b6 d l hd lf f cs es ck, none_⟩ := by
    intro i hi d l lf f cs jb tb mb hd es ck
    unfold actsT
    generalize Row.aggs actC A = acts at *
    refine run_sound (⟨fun | 11, 2 => .res (.agg (actC ⟨0, 0, 0, 0, false, [], 0⟩)) | 12, 7 => .res (str []) | _, _ => .no, [((0, 13), ([0, 3, 4, 6, 7, 8, 9], 7))], fun | 39 => some ⟨[], [3], .take true [0,1,2] (.one 3 .done)⟩ | 41 => some ⟨[], [], .take true [0,3,4] (.one 1 (.take true [2,5,6,7,9] (.one 8 (.one 10 (.take true [11,12,13,14,15,16,17,18,20,21] (.one 19 (.take true [22,23,24,25,26,27,28,29,30,31,32,33,34] .done)))))))⟩ | _ => none⟩) 400 (B := bsplit (decide ((↑i : Int) < (↑(List.length acts) : Int))) (bsplit (decide ((↑i : Int) < (80 : Int))) ((0 : Int) ≤ (↑i : Int) ∧ acts[Int.toNat (↑i : Int)]? = some (T.agg [T.v (Value.int IntKind.u8 (↑(Act.w { w := (0 : Nat), s := (0 : Nat), q := (0 : Nat), e := (0 : Nat), h := false, x := [], k := (0 : Int) }) : Int)), T.v (Value.int IntKind.u32 (↑(Act.s { w := (0 : Nat), s := (0 : Nat), q := (0 : Nat), e := (0 : Nat), h := false, x := [], k := (0 : Int) }) : Int)), T.v (Value.int IntKind.u32 (↑(Act.q { w := (0 : Nat), s := (0 : Nat), q := (0 : Nat), e := (0 : Nat), h := false, x := [], k := (0 : Int) }) : Int)), T.v (Value.int IntKind.u8 (↑(Act.e { w := (0 : Nat), s := (0 : Nat), q := (0 : Nat), e := (0 : Nat), h := false, x := [], k := (0 : Int) }) : Int)), T.v (Value.bool false), T.v (Value.string (ByteArray.mk (List.toArray (Act.x { w := (0 : Nat), s := (0 : Nat), q := (0 : Nat), e := (0 : Nat), h := false, x := [], k := (0 : Int) })))), T.v (Value.int IntKind.i64 (Act.k { w := (0 : Nat), s := (0 : Nat), q := (0 : Nat), e := (0 : Nat), h := false, x := [], k := (0 : Int) }))]) ∧ ∀ (b : Nat), ((7 : Nat) = nat_lit 7 ∧ List.all [T.v (Value.int IntKind.u8 (↑(Act.w { w := (0 : Nat), s := (0 : Nat), q := (0 : Nat), e := (0 : Nat), h := false, x := [], k := (0 : Int) }) : Int)), T.v (Value.int IntKind.u32 (↑(Act.s { w := (0 : Nat), s := (0 : Nat), q := (0 : Nat), e := (0 : Nat), h := false, x := [], k := (0 : Int) }) : Int)), T.v (Value.int IntKind.u32 (↑(Act.q { w := (0 : Nat), s := (0 : Nat), q := (0 : Nat), e := (0 : Nat), h := false, x := [], k := (0 : Int) }) : Int)), T.v (Value.int IntKind.u8 (↑(Act.e { w := (0 : Nat), s := (0 : Nat), q := (0 : Nat), e := (0 : Nat), h := false, x := [], k := (0 : Int) }) : Int)), T.v (Value.bool false), T.v (Value.string (ByteArray.mk (List.toArray (Act.x { w := (0 : Nat), s := (0 : Nat), q := (0 : Nat), e := (0 : Nat), h := false, x := [], k := (0 : Int) })))), T.v (Value.int IntKind.i64 (Act.k { w := (0 : Nat), s := (0 : Nat), q := (0 : Nat), e := (0 : Nat), h := false, x := [], k := (0 : Int) }))] T.one = true) ∧ b = b ∧ (0 : Nat) + nat_lit 7 ≤ (7 : Nat) ∧ b = b ∧ b = b ∧ ((0 : Int) ≤ (↑(0 : Nat) : Int) ∧ (↑(0 : Nat) : Int) ≤ Prod.snd (IntKind.i64, if (40 : Int) < (↑(ByteArray.size (ByteArray.mk (List.toArray (Act.x { w := (0 : Nat), s := (0 : Nat), q := (0 : Nat), e := (0 : Nat), h := false, x := [], k := (0 : Int) })))) : Int) then (40 : Int) else (↑(ByteArray.size (ByteArray.mk (List.toArray (Act.x { w := (0 : Nat), s := (0 : Nat), q := (0 : Nat), e := (0 : Nat), h := false, x := [], k := (0 : Int) })))) : Int)) ∧ Prod.snd (IntKind.i64, if (40 : Int) < (↑(ByteArray.size (ByteArray.mk (List.toArray (Act.x { w := (0 : Nat), s := (0 : Nat), q := (0 : Nat), e := (0 : Nat), h := false, x := [], k := (0 : Int) })))) : Int) then (40 : Int) else (↑(ByteArray.size (ByteArray.mk (List.toArray (Act.x { w := (0 : Nat), s := (0 : Nat), q := (0 : Nat), e := (0 : Nat), h := false, x := [], k := (0 : Int) })))) : Int)) ≤ (↑(ByteArray.size (ByteArray.mk (List.toArray (Act.x { w := (0 : Nat), s := (0 : Nat), q := (0 : Nat), e := (0 : Nat), h := false, x := [], k := (0 : Int) })))) : Int)) ∧ some (T.v (Value.string (ByteArray.extract (ByteArray.mk (List.toArray (Act.x { w := (0 : Nat), s := (0 : Nat), q := (0 : Nat), e := (0 : Nat), h := false, x := [], k := (0 : Int) }))) (Int.toNat (↑(0 : Nat) : Int)) (Int.toNat (Prod.snd (IntKind.i64, if (40 : Int) < (↑(ByteArray.size (ByteArray.mk (List.toArray (Act.x { w := (0 : Nat), s := (0 : Nat), q := (0 : Nat), e := (0 : Nat), h := false, x := [], k := (0 : Int) })))) : Int) then (40 : Int) else (↑(ByteArray.size (ByteArray.mk (List.toArray (Act.x { w := (0 : Nat), s := (0 : Nat), q := (0 : Nat), e := (0 : Nat), h := false, x := [], k := (0 : Int) })))) : Int))))))) = some (T.v (Value.string (ByteArray.mk (#[])))) ∧ TWk Try.prog Γ (fin Try.prog Try.f8 [] Q) [It.code (sub (bd Try.f8) [(1 : Nat), (1 : Nat), (1 : Nat), (1 : Nat), (1 : Nat), (1 : Nat), (0 : Nat), (1 : Nat), (0 : Nat), (0 : Nat), (1 : Nat), (0 : Nat), (0 : Nat), (1 : Nat), (1 : Nat)]), It.blk (1 : Nat), It.code (sub (bd Try.f8) [(1 : Nat), (1 : Nat), (1 : Nat), (1 : Nat), (1 : Nat), (1 : Nat), (0 : Nat), (1 : Nat), (0 : Nat), (0 : Nat), (1 : Nat), (1 : Nat)]), It.code (sub (bd Try.f8) [(1 : Nat), (1 : Nat), (1 : Nat), (1 : Nat), (1 : Nat), (1 : Nat), (0 : Nat), (1 : Nat), (0 : Nat)]), It.blk (0 : Nat), It.code (sub (bd Try.f8) [(1 : Nat), (1 : Nat), (1 : Nat), (1 : Nat), (1 : Nat), (1 : Nat), (1 : Nat)])] { fr := [T.sl (7 : Nat) acts, T.und, T.und, T.ptr (0 : Nat) db (0 : Nat), T.ptr (3 : Nat) tb (0 : Nat), T.und, T.ptr (5 : Nat) b6 (0 : Nat), T.v (Value.int IntKind.i64 (↑i : Int)), T.ptr (6 : Nat) b (0 : Nat), T.v (Value.string (ByteArray.mk (#[]))), T.und, T.und, T.und, T.und, T.und, T.und, T.und, T.und, T.und, T.und, T.und, T.und, T.und, T.und, T.und, T.und, T.und, T.und, T.und, T.und, T.und, T.und, T.und, T.und, T.und, T.und, T.und, T.und, T.und, T.und, T.und, T.und, T.und, T.und, T.und, T.und, T.und, T.und, T.und, T.und, T.und, T.und, T.und, T.und, T.und, T.und, T.und, T.und, T.und, T.und, T.und, T.und, T.und, T.und, T.und, T.und, T.und, T.und, T.und, T.und, T.und, T.und, T.und, T.und, T.und, T.und, T.und, T.und, T.und, T.und, T.und, T.und, T.und, T.und, T.und, T.und, T.und, T.und, T.und, T.und, T.und, T.und, T.und, T.und, T.und, T.und, T.und, T.und, T.und, T.und, T.und, T.und, T.und, T.und, T.und, T.und, T.und, T.und, T.und, T.und, T.und, T.und, T.und, T.und, T.und, T.und, T.und, T.und, T.und, T.und, T.und, T.und, T.und, T.und, T.und, T.und, T.und, T.und, T.und, T.und, T.und, T.und, T.und, T.und, T.und, T.und, T.und, T.und, T.und, T.und, T.und, T.und, T.und, T.und, T.und, T.und, T.und, T.und, T.und, T.und, T.und, T.und, T.und, T.und, T.und, T.und, T.und, T.und, T.und, T.und, T.und, T.und, T.und, T.und, T.und, T.und, T.und, T.und, T.und, T.und, T.und, T.und, T.und, T.und, T.und, T.und, T.und, T.und, T.und, T.und, T.und, T.und, T.und, T.und, T.und, T.und, T.und, T.und, T.und, T.und, T.und, T.und, T.und, T.und, T.und, T.und, T.und, T.und, T.und, T.und, T.und, T.und, T.und, T.und, T.und, T.und, T.und, T.und, T.und, T.und, T.und, T.und, T.und, T.und, T.und, T.und, T.und, T.und], ob := [(db, Ob.cells [T.v (Value.string (ByteArray.mk (List.toArray (Dk.b d)))), T.v (Value.int IntKind.i64 (↑(Dk.n d) : Int)), T.v (Value.bool (Dk.off d))]), (jb, Ob.cells [T.ptr (0 : Nat) db (0 : Nat), T.slx (1 : Nat) (2 : Nat) (strs l) hd, T.v (Value.bool false)]), ((0 : Nat), Ob.room (1 : Nat) (9 : Nat) (List.length (strs l)) hd), (tb, Ob.cells [T.ptr (1 : Nat) jb (0 : Nat), T.v (Value.int IntKind.u8 (↑lf : Int)), T.mp (4 : Nat) mb]), (mb, Ob.map IntKind.u32 (mT f) es ck), (b6, Ob.cells [T.v (Value.int IntKind.i64 (↑lf : Int)), T.sl (6 : Nat) (rows cs)]), (b, Ob.cells [T.v (Value.int IntKind.u8 (↑(Act.w { w := (0 : Nat), s := (0 : Nat), q := (0 : Nat), e := (0 : Nat), h := false, x := [], k := (0 : Int) }) : Int)), T.v (Value.int IntKind.u32 (↑(Act.s { w := (0 : Nat), s := (0 : Nat), q := (0 : Nat), e := (0 : Nat), h := false, x := [], k := (0 : Int) }) : Int)), T.v (Value.int IntKind.u32 (↑(Act.q { w := (0 : Nat), s := (0 : Nat), q := (0 : Nat), e := (0 : Nat), h := false, x := [], k := (0 : Int) }) : Int)), T.v (Value.int IntKind.u8 (↑(Act.e { w := (0 : Nat), s := (0 : Nat), q := (0 : Nat), e := (0 : Nat), h := false, x := [], k := (0 : Int) }) : Int)), T.v (Value.bool false), T.v (Value.string (ByteArray.mk (List.toArray (Act.x { w := (0 : Nat), s := (0 : Nat), q := (0 : Nat), e := (0 : Nat), h := false, x := [], k := (0 : Int) })))), T.v (Value.int IntKind.i64 (Act.k { w := (0 : Nat), s := (0 : Nat), q := (0 : Nat), e := (0 : Nat), h := false, x := [], k := (0 : Int) }))])], gl := fun x => none }) (Q (T.v (Value.bool true)) [] fun x => none)) (Q (T.v (Value.bool true)) [] fun x => none)) (by kernel_rfl) ?_
    repeat' (first | exact rfl | exact Nat.le_of_ble_eq_true rfl | refine And.intro ?_ ?_ | intro _ | refine bsplit_mk (fun _ => ?_) (fun _ => ?_))
    all_goals first
      | exact hQ _ rfl
      | (exfalso; simp only [decide_eq_true_eq] at *; omega)
      | trace_state
  intro n
  induction n with
  | zero => intro i hi rs lf cs jb tb mb hd es ck _; exact out i (.inl (by omega)) _ _ _ _ _ _ _ _ _ _ _
  | succ n ih =>
    intro i hi rs lf cs jb tb mb hd es ck hI
    by_cases hl : A.length ≤ i
    · exact out i (.inr hl) _ _ _ _ _ _ _ _ _ _ _
    · obtain ⟨a, hia⟩ : ∃ a, A[i]? = some a := ⟨_, List.getElem?_eq_getElem (by omega)⟩
      have hga := acts_at hia
      have rd := fun b7 => pl_round Γ (Row.aggs actC A) db jb tb mb b6 b7 i a (hA a (List.mem_of_getElem? hia)) (by omega) rs hd lf cs es ck Q hI (fun rs' lf' cs' jb tb mb hd es ck h' => ih (i + 1) (by omega) rs' lf' cs' jb tb mb hd es ck h')
      have hsz : (⟨a.x.toArray⟩ : ByteArray).size = a.x.length := by show a.x.toArray.size = _; simp
      unfold actsT
      generalize Jrn.jd (bsR rs) = d at *
      generalize bsR rs = l at *
      generalize Ses.fn cs = f at *
      have hc := txt_cut a.x
      unfold txt at rd
      generalize a.x.take 40 = t at *
      generalize Row.aggs actC A = acts at *
      clear ih out
      refine run_sound (⟨fun | 11, 2 => .res (.agg (actC a)) | 12, 7 => .res (str t) | _, _ => .no, [((0, 13), ([0, 3, 4, 6, 7, 8, 9], 7))], fun | 39 => some ⟨[], [3], .take true [0,1,2] (.one 3 .done)⟩ | 41 => some ⟨[], [], .take true [0,3,4] (.one 1 (.take true [2,5,6,7,9] (.one 8 (.one 10 (.take true [11,12,13,14,15,16,17,18,20,21] (.one 19 (.take true [22,23,24,25,26,27,28,29,30,31,32,33,34] .done)))))))⟩ | _ => none⟩) 400 (B := bsplit (decide ((↑i : Int) < (↑(List.length acts) : Int))) (bsplit (decide ((↑i : Int) < (80 : Int))) ((0 : Int) ≤ (↑i : Int) ∧ acts[Int.toNat (↑i : Int)]? = some (T.agg [T.v (Value.int IntKind.u8 (↑(Act.w a) : Int)), T.v (Value.int IntKind.u32 (↑(Act.s a) : Int)), T.v (Value.int IntKind.u32 (↑(Act.q a) : Int)), T.v (Value.int IntKind.u8 (↑(Act.e a) : Int)), T.v (Value.bool (Act.h a)), T.v (Value.string (ByteArray.mk (List.toArray (Act.x a)))), T.v (Value.int IntKind.i64 (Act.k a))]) ∧ ∀ (b : Nat), ((7 : Nat) = nat_lit 7 ∧ List.all [T.v (Value.int IntKind.u8 (↑(Act.w a) : Int)), T.v (Value.int IntKind.u32 (↑(Act.s a) : Int)), T.v (Value.int IntKind.u32 (↑(Act.q a) : Int)), T.v (Value.int IntKind.u8 (↑(Act.e a) : Int)), T.v (Value.bool (Act.h a)), T.v (Value.string (ByteArray.mk (List.toArray (Act.x a)))), T.v (Value.int IntKind.i64 (Act.k a))] T.one = true) ∧ b = b ∧ (0 : Nat) + nat_lit 7 ≤ (7 : Nat) ∧ b = b ∧ b = b ∧ ((0 : Int) ≤ (↑(0 : Nat) : Int) ∧ (↑(0 : Nat) : Int) ≤ Prod.snd (IntKind.i64, if (40 : Int) < (↑(ByteArray.size (ByteArray.mk (List.toArray (Act.x a)))) : Int) then (40 : Int) else (↑(ByteArray.size (ByteArray.mk (List.toArray (Act.x a)))) : Int)) ∧ Prod.snd (IntKind.i64, if (40 : Int) < (↑(ByteArray.size (ByteArray.mk (List.toArray (Act.x a)))) : Int) then (40 : Int) else (↑(ByteArray.size (ByteArray.mk (List.toArray (Act.x a)))) : Int)) ≤ (↑(ByteArray.size (ByteArray.mk (List.toArray (Act.x a)))) : Int)) ∧ some (T.v (Value.string (ByteArray.extract (ByteArray.mk (List.toArray (Act.x a))) (Int.toNat (↑(0 : Nat) : Int)) (Int.toNat (Prod.snd (IntKind.i64, if (40 : Int) < (↑(ByteArray.size (ByteArray.mk (List.toArray (Act.x a)))) : Int) then (40 : Int) else (↑(ByteArray.size (ByteArray.mk (List.toArray (Act.x a)))) : Int))))))) = some (T.v (Value.string (ByteArray.mk (List.toArray t)))) ∧ TWk Try.prog Γ (fin Try.prog Try.f8 [] Q) [It.code (sub (bd Try.f8) [(1 : Nat), (1 : Nat), (1 : Nat), (1 : Nat), (1 : Nat), (1 : Nat), (0 : Nat), (1 : Nat), (0 : Nat), (0 : Nat), (1 : Nat), (0 : Nat), (0 : Nat), (1 : Nat), (1 : Nat)]), It.blk (1 : Nat), It.code (sub (bd Try.f8) [(1 : Nat), (1 : Nat), (1 : Nat), (1 : Nat), (1 : Nat), (1 : Nat), (0 : Nat), (1 : Nat), (0 : Nat), (0 : Nat), (1 : Nat), (1 : Nat)]), It.code (sub (bd Try.f8) [(1 : Nat), (1 : Nat), (1 : Nat), (1 : Nat), (1 : Nat), (1 : Nat), (0 : Nat), (1 : Nat), (0 : Nat)]), It.blk (0 : Nat), It.code (sub (bd Try.f8) [(1 : Nat), (1 : Nat), (1 : Nat), (1 : Nat), (1 : Nat), (1 : Nat), (1 : Nat)])] { fr := [T.sl (7 : Nat) acts, T.und, T.und, T.ptr (0 : Nat) db (0 : Nat), T.ptr (3 : Nat) tb (0 : Nat), T.und, T.ptr (5 : Nat) b6 (0 : Nat), T.v (Value.int IntKind.i64 (↑i : Int)), T.ptr (6 : Nat) b (0 : Nat), T.v (Value.string (ByteArray.mk (List.toArray t))), T.und, T.und, T.und, T.und, T.und, T.und, T.und, T.und, T.und, T.und, T.und, T.und, T.und, T.und, T.und, T.und, T.und, T.und, T.und, T.und, T.und, T.und, T.und, T.und, T.und, T.und, T.und, T.und, T.und, T.und, T.und, T.und, T.und, T.und, T.und, T.und, T.und, T.und, T.und, T.und, T.und, T.und, T.und, T.und, T.und, T.und, T.und, T.und, T.und, T.und, T.und, T.und, T.und, T.und, T.und, T.und, T.und, T.und, T.und, T.und, T.und, T.und, T.und, T.und, T.und, T.und, T.und, T.und, T.und, T.und, T.und, T.und, T.und, T.und, T.und, T.und, T.und, T.und, T.und, T.und, T.und, T.und, T.und, T.und, T.und, T.und, T.und, T.und, T.und, T.und, T.und, T.und, T.und, T.und, T.und, T.und, T.und, T.und, T.und, T.und, T.und, T.und, T.und, T.und, T.und, T.und, T.und, T.und, T.und, T.und, T.und, T.und, T.und, T.und, T.und, T.und, T.und, T.und, T.und, T.und, T.und, T.und, T.und, T.und, T.und, T.und, T.und, T.und, T.und, T.und, T.und, T.und, T.und, T.und, T.und, T.und, T.und, T.und, T.und, T.und, T.und, T.und, T.und, T.und, T.und, T.und, T.und, T.und, T.und, T.und, T.und, T.und, T.und, T.und, T.und, T.und, T.und, T.und, T.und, T.und, T.und, T.und, T.und, T.und, T.und, T.und, T.und, T.und, T.und, T.und, T.und, T.und, T.und, T.und, T.und, T.und, T.und, T.und, T.und, T.und, T.und, T.und, T.und, T.und, T.und, T.und, T.und, T.und, T.und, T.und, T.und, T.und, T.und, T.und, T.und, T.und, T.und, T.und, T.und, T.und, T.und, T.und, T.und, T.und, T.und, T.und, T.und, T.und], ob := [(db, Ob.cells [T.v (Value.string (ByteArray.mk (List.toArray (Dk.b d)))), T.v (Value.int IntKind.i64 (↑(Dk.n d) : Int)), T.v (Value.bool (Dk.off d))]), (jb, Ob.cells [T.ptr (0 : Nat) db (0 : Nat), T.slx (1 : Nat) (2 : Nat) (strs l) hd, T.v (Value.bool false)]), ((0 : Nat), Ob.room (1 : Nat) (9 : Nat) (List.length (strs l)) hd), (tb, Ob.cells [T.ptr (1 : Nat) jb (0 : Nat), T.v (Value.int IntKind.u8 (↑lf : Int)), T.mp (4 : Nat) mb]), (mb, Ob.map IntKind.u32 (mT f) es ck), (b6, Ob.cells [T.v (Value.int IntKind.i64 (↑lf : Int)), T.sl (6 : Nat) (rows cs)]), (b, Ob.cells [T.v (Value.int IntKind.u8 (↑(Act.w a) : Int)), T.v (Value.int IntKind.u32 (↑(Act.s a) : Int)), T.v (Value.int IntKind.u32 (↑(Act.q a) : Int)), T.v (Value.int IntKind.u8 (↑(Act.e a) : Int)), T.v (Value.bool (Act.h a)), T.v (Value.string (ByteArray.mk (List.toArray (Act.x a)))), T.v (Value.int IntKind.i64 (Act.k a))])], gl := fun x => none }) (Q (T.v (Value.bool true)) [] fun x => none)) (Q (T.v (Value.bool true)) [] fun x => none)) (by kernel_rfl) ?_
      repeat' (first | exact rfl | exact Nat.le_of_ble_eq_true rfl | refine And.intro ?_ ?_ | intro _ | refine bsplit_mk (fun _ => ?_) (fun _ => ?_))
      all_goals first
        | exact hga
        | exact rd _
        | exact Int.natCast_nonneg _
        | (dsimp only; rw [hsz]; split <;> omega)
        | (dsimp only; rw [hsz]; split <;> (refine congrArg some (hc _ ?_); omega))
        | (exfalso; simp only [decide_eq_false_iff_not] at *; omega)
        | trace_state
theorem fn_nil : nof = Ses.fn [] := by
  funext z
  unfold Ses.fn
  split <;> rfl
theorem relL_set {M : Pm} {j : Nat} {ts : List T} {xs : List Value} {t t' : T} (hj : ts[j]? = some t) (ht : ∀ v, Rel M t v → Rel M t' v) (h : RelL M ts xs) : RelL M (ts.set j t') xs := by
  obtain ⟨y, h1, h2⟩ := h.get hj
  have h3 := h.set j (ht y h2)
  have e : xs.set j y = xs := by
    obtain ⟨hl, he⟩ := List.getElem?_eq_some_iff.1 h1
    rw [← he, List.set_getElem_self]
  rwa [e] at h3
/-- a cell told in another way -/
theorem Imp.cellR {ts : List T} {ob : Obs} {gl : Glb} {i b j : Nat} {cs : List T} {t t' : T} (hi : ob[i]? = some (b, .cells cs)) (hj : cs[j]? = some t) (ht : ∀ M v, Rel M t v → Rel M t' v) : Imp ts ob gl ts (ob.set i (b, .cells (cs.set j t'))) gl :=
  Imp.ob hi (fun M _ ⟨C, ty, h1, h2, h3⟩ => ⟨C, ty, h1, relL_set hj (ht M) h2, h3⟩) (fun _ h => h)
theorem rel_nil_sl {M : Pm} {k : Nat} {v : Value} (h : Rel M (.v nilS) v) : Rel M (.sl k []) v := by
  simp only [Rel] at h
  subst h
  simp only [Rel]
  exact ⟨none, 0, rfl, ⟨Nat.le_refl _, Nat.zero_le _, fun _ => ⟨rfl, rfl⟩, fun a h => by cases h⟩, (fun e he => by cases he), fun b o h => by cases h⟩
theorem pl_any (A : List Act) (hA : ∀ a ∈ A, a.Ok) (Q : T → Obs → Glb → Prop) (hQ : ∀ x, x = bool true → Q x [] none_) : TCalls Try.prog 8 [actsT A] [] none_ Q := by
  have k1 := rs_nil 3 (by decide)
  have hsp := speaks_true _ (fun x hx => told_post (sel := []) (ob := []) hx)
  have hs := fun db => st_post db [] k1.ok k1.vs (0, nof) rfl (by decide) (by have := k1.le; omega)
  have hI : PInv [r1] 1 [] 0 := ⟨(by rw [← fn_nil]; rfl), (rs_nil 0 (by decide)).snoc r1 (show 1 < 256 by decide) (by decide), ⟨(by show ([] : List Nat).Nodup; exact List.nodup_nil), (fun _ h => by cases h), Nat.zero_le _⟩, Nat.le_refl _⟩
  have lp := fun Γ db b6 jb tb mb hd es ck => pl_loop Γ A hA db b6 Q hQ 80 0 rfl [r1] 1 [] jb tb mb hd es ck hI
  have hs : ∀ db, TCalls Try.prog 22 [.ptr 0 db 0] (obsK db Jrn.newD) none_ (callPost (stP db (Jrn.jd (bsR [r1])) (bsR [r1]) 1 (Ses.fn []))) := by rw [← fn_nil]; exact hs
  generalize bsR [r1] = l at *
  generalize Jrn.jd l = d at *
  generalize Ses.fn [] = f at *
  unfold actsT at *
  generalize Row.aggs actC A = acts at *
  have lp := fun Γ db b6 jb tb mb hd es ck => TWk.imp (s := ⟨frame 218 [(0, .sl 7 acts), (3, .ptr 0 db 0), (4, .ptr 3 tb 0), (6, .ptr 5 b6 0), (7, int 0)], [(db, .cells (dkC d)), (jb, .cells (jC db l hd false)), (0, .room 1 9 (strs l).length hd), (tb, .cells (tC jb 1 mb)), (mb, .map .u32 (mT f) es ck), (b6, .cells [int 1, .v nilS])], none_⟩) (lp Γ db b6 jb tb mb hd es ck) (Imp.cellR (ob := [(db, .cells (dkC d)), (jb, .cells (jC db l hd false)), (0, .room 1 9 (strs l).length hd), (tb, .cells (tC jb 1 mb)), (mb, .map .u32 (mT f) es ck), (b6, .cells [int 1, .v nilS])]) (b := b6) (cs := [int 1, .v nilS]) (i := 5) (j := 1) (t := .v nilS) (t' := .sl 6 []) rfl rfl fun _ _ h => rel_nil_sl h)
  refine TCalls.of Try.func8 rfl (CanCall.of Try.func8 rfl (by decide)) [] fun Γ => ?_
  refine run_sound (⟨fun | 1, 0 => told (bool true) [] [] | 3, 0 => nwH | 4, 1 => stH 0 d l 1 f | _, _ => .no, [((2, 9), ([0, 3, 4, 6, 7], 6))], fun | 39 => some ⟨[], [3], .take true [0,1,2] (.one 3 .done)⟩ | 41 => some ⟨[], [], .take true [0,3,4] (.one 1 (.take true [2,5,6,7,9] (.one 8 (.one 10 (.take true [11,12,13,14,15,16,17,18,20,21] (.one 19 (.take true [22,23,24,25,26,27,28,29,30,31,32,33,34] .done)))))))⟩ | _ => none⟩) 400 (B := TCalls Try.prog (21 : Nat) [] [] (fun x => none) (callPost (Hint.call false Unit (fun x => True) [] false (fun x => bool true) (fun x => []) fun x => none_)) ∧ ∀ (a : Unit), True → TCalls Try.prog (11 : Nat) [] [] (fun x => none) (callPost (Hint.call false Nat (fun x => True) [] false (fun b => T.ptr (0 : Nat) b (0 : Nat)) (fun b => obsK b Jrn.newD) fun x => none_)) ∧ ∀ (a : Nat), True → TCalls Try.prog (22 : Nat) [T.ptr (0 : Nat) a (0 : Nat)] [(a, Ob.cells [T.v (Value.string (ByteArray.mk (List.toArray (Dk.b Jrn.newD)))), T.v (Value.int IntKind.i64 (↑(Dk.n Jrn.newD) : Int)), T.v (Value.bool false)])] (fun x => none) (callPost (Hint.call false (Nat × Nat × Nat × Value × Array MapEntry × Nat) (fun x => True) [(0 : Nat)] false (fun a => T.tup [T.ptr (3 : Nat) (Prod.fst (Prod.snd a)) (0 : Nat), int (0 : Int)]) (fun a_1 => obsT a (Prod.fst a_1) (Prod.fst (Prod.snd a_1)) (Prod.fst (Prod.snd (Prod.snd a_1))) d l (Prod.fst (Prod.snd (Prod.snd (Prod.snd a_1)))) false (1 : Nat) f (Prod.fst (Prod.snd (Prod.snd (Prod.snd (Prod.snd a_1))))) (Prod.snd (Prod.snd (Prod.snd (Prod.snd (Prod.snd a_1)))))) fun x => none_)) ∧ ∀ (a_1 : Nat × Nat × Nat × Value × Array MapEntry × Nat), True → ∀ (b : Nat), ((2 : Nat) = nat_lit 2 ∧ List.all [T.v (Value.int IntKind.i64 (1 : Int)), T.v (Value.slice none (0 : Nat) (0 : Nat))] T.one = true) ∧ b = b ∧ (0 : Nat) + nat_lit 2 ≤ (2 : Nat) ∧ TWk Try.prog Γ (fin Try.prog Try.f8 [] Q) [It.code (sub (bd Try.f8) [(1 : Nat), (1 : Nat), (1 : Nat), (1 : Nat), (1 : Nat), (1 : Nat), (0 : Nat), (1 : Nat), (0 : Nat)]), It.blk (0 : Nat), It.code (sub (bd Try.f8) [(1 : Nat), (1 : Nat), (1 : Nat), (1 : Nat), (1 : Nat), (1 : Nat), (1 : Nat)])] { fr := [T.sl (7 : Nat) acts, T.und, T.und, T.ptr (0 : Nat) a (0 : Nat), T.ptr (3 : Nat) (Prod.fst (Prod.snd a_1)) (0 : Nat), T.und, T.ptr (5 : Nat) b (0 : Nat), T.v (Value.int IntKind.i64 (0 : Int)), T.und, T.und, T.und, T.und, T.und, T.und, T.und, T.und, T.und, T.und, T.und, T.und, T.und, T.und, T.und, T.und, T.und, T.und, T.und, T.und, T.und, T.und, T.und, T.und, T.und, T.und, T.und, T.und, T.und, T.und, T.und, T.und, T.und, T.und, T.und, T.und, T.und, T.und, T.und, T.und, T.und, T.und, T.und, T.und, T.und, T.und, T.und, T.und, T.und, T.und, T.und, T.und, T.und, T.und, T.und, T.und, T.und, T.und, T.und, T.und, T.und, T.und, T.und, T.und, T.und, T.und, T.und, T.und, T.und, T.und, T.und, T.und, T.und, T.und, T.und, T.und, T.und, T.und, T.und, T.und, T.und, T.und, T.und, T.und, T.und, T.und, T.und, T.und, T.und, T.und, T.und, T.und, T.und, T.und, T.und, T.und, T.und, T.und, T.und, T.und, T.und, T.und, T.und, T.und, T.und, T.und, T.und, T.und, T.und, T.und, T.und, T.und, T.und, T.und, T.und, T.und, T.und, T.und, T.und, T.und, T.und, T.und, T.und, T.und, T.und, T.und, T.und, T.und, T.und, T.und, T.und, T.und, T.und, T.und, T.und, T.und, T.und, T.und, T.und, T.und, T.und, T.und, T.und, T.und, T.und, T.und, T.und, T.und, T.und, T.und, T.und, T.und, T.und, T.und, T.und, T.und, T.und, T.und, T.und, T.und, T.und, T.und, T.und, T.und, T.und, T.und, T.und, T.und, T.und, T.und, T.und, T.und, T.und, T.und, T.und, T.und, T.und, T.und, T.und, T.und, T.und, T.und, T.und, T.und, T.und, T.und, T.und, T.und, T.und, T.und, T.und, T.und, T.und, T.und, T.und, T.und, T.und, T.und, T.und, T.und, T.und, T.und, T.und, T.und, T.und, T.und, T.und, T.und, T.und, T.und], ob := [(a, Ob.cells [T.v (Value.string (ByteArray.mk (List.toArray (Dk.b d)))), T.v (Value.int IntKind.i64 (↑(Dk.n d) : Int)), T.v (Value.bool (Dk.off d))]), (Prod.fst a_1, Ob.cells [T.ptr (0 : Nat) a (0 : Nat), T.slx (1 : Nat) (2 : Nat) (strs l) (Prod.fst (Prod.snd (Prod.snd (Prod.snd a_1)))), T.v (Value.bool false)]), ((0 : Nat), Ob.room (1 : Nat) (9 : Nat) (List.length (strs l)) (Prod.fst (Prod.snd (Prod.snd (Prod.snd a_1))))), (Prod.fst (Prod.snd a_1), Ob.cells [T.ptr (1 : Nat) (Prod.fst a_1) (0 : Nat), T.v (Value.int IntKind.u8 (↑(1 : Nat) : Int)), T.mp (4 : Nat) (Prod.fst (Prod.snd (Prod.snd a_1)))]), (Prod.fst (Prod.snd (Prod.snd a_1)), Ob.map IntKind.u32 (mT f) (Prod.fst (Prod.snd (Prod.snd (Prod.snd (Prod.snd a_1))))) (Prod.snd (Prod.snd (Prod.snd (Prod.snd (Prod.snd a_1)))))), (b, Ob.cells [T.v (Value.int IntKind.i64 (1 : Int)), T.v (Value.slice none (0 : Nat) (0 : Nat))])], gl := fun x => none }) (by kernel_rfl) ?_
  repeat' (first | exact rfl | exact Nat.le_of_ble_eq_true rfl | refine And.intro ?_ ?_ | intro _ | refine bsplit_mk (fun _ => ?_) (fun _ => ?_))
  all_goals first
    | exact hsp
    | exact X10.nw_post
    | exact hs _
    | exact lp _ _ _ _ _ _ _ _ _
    | trace_state
end X22
end Go.Proofs.Ytaepgceodcdnhaa.Vm
