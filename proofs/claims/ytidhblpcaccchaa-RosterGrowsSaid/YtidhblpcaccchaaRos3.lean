/- Rosters: as long as all tell that they are there, the wishes end with all in the view, ready and granted. No program is named here. -/
import Derived.Test.YtidhblpcaccchaaRos2
namespace Go.Proofs.Ytidhblpcaccchaa.Ros
open View (VS WF Mem)
open Lrn (Cmd ap)
def gM (lf : Nat → Nat) (k s i : Nat) : Mem := ⟨i + 1, lf (i + 1), decide (i < k + s)⟩
def gms (lf : Nat → Nat) (k a s : Nat) : List Mem := (List.range (k + a)).map (gM lf k s)
def gL (lf : Nat → Nat) (k a : Nat) : Nat → Nat := fun i => if i < k + a then lf (i + 1) else 0
def gV (lf : Nat → Nat) (k a s : Nat) : VS := ⟨1 + (a : Int), gms lf k a s, gL lf k a⟩
def gG (lf : Nat → Nat) (a g : Nat) : Nat → Cmd := fun i => if 1 ≤ i ∧ i ≤ g then ⟨4, i, lf i, 1 + (a : Int), 7⟩ else c0
structure Gr (n k : Nat) (lf : Nat → Nat) (a s g : Nat) (r : RS) : Prop where
  sa : s ≤ a
  an : k + a ≤ n
  s0 : 0 < s → k + a = n
  g0 : 0 < g → k + s = n
  gn : g ≤ n
  su : r.su = 50
  wa : r.wa = 60
  now : r.now = (a : Int) + s + g
  G : r.G = gG lf a g
  W : ∀ m, (r.W m).l ≤ if 1 ≤ m ∧ m ≤ n then lf m else 0
  bd : Bd r
structure Gp (n k : Nat) (lf : Nat → Nat) : Prop where
  k1 : 1 ≤ k
  kn : k ≤ n
  n8 : n ≤ 8
  l1 : ∀ m, 1 ≤ lf m ∧ lf m ≤ 200
/-- all up to a node told -/
def all (r : RS) (lf : Nat → Nat) (e : Int) (m : Nat) : RS := { r with W := fun i => if 1 ≤ i ∧ i ≤ m then ⟨i, lf i, e, 7, true, r.now⟩ else r.W i }
theorem all_zero (r : RS) (lf : Nat → Nat) (e : Int) : all r lf e 0 = r := by
  unfold all
  have : (fun i => if 1 ≤ i ∧ i ≤ 0 then (⟨i, lf i, e, 7, true, r.now⟩ : Wd) else r.W i) = r.W := funext fun i => if_neg (by omega)
  rw [this]
theorem all_W (r : RS) (lf : Nat → Nat) (e : Int) (m i : Nat) : (all r lf e m).W i = if 1 ≤ i ∧ i ≤ m then ⟨i, lf i, e, 7, true, r.now⟩ else r.W i := rfl
theorem hear_all (r : RS) (lf : Nat → Nat) (e : Int) (m : Nat) (w : Int) (hm : m + 1 ≤ 8) (hl : 1 ≤ lf (m + 1) ∧ lf (m + 1) ≤ 200) (hW : (r.W (m + 1)).l ≤ lf (m + 1)) :
    hear (all r lf e m) ⟨m + 1, lf (m + 1), e, 7, true, w⟩ = all r lf e (m + 1) := by
  have hb : hearB (all r lf e m) ⟨m + 1, lf (m + 1), e, 7, true, w⟩ = true := by
    unfold hearB
    refine decide_eq_true ⟨by show 1 ≤ m + 1; omega, hm, hl.1, hl.2, ?_⟩
    rw [all_W, if_neg (by show ¬ (1 ≤ m + 1 ∧ m + 1 ≤ m); omega)]
    exact hW
  unfold hear
  rw [if_pos hb]
  have : put (all r lf e m).W (m + 1) ⟨m + 1, lf (m + 1), e, 7, true, r.now⟩ = (all r lf e (m + 1)).W := funext fun i => by
    show (if i = m + 1 then _ else (all r lf e m).W i) = _
    rw [all_W, all_W]
    by_cases h : i = m + 1
    · rw [if_pos h, if_pos (by omega), h]
    · rw [if_neg h]
      by_cases h2 : 1 ≤ i ∧ i ≤ m
      · rw [if_pos h2, if_pos (by omega)]
      · rw [if_neg h2, if_neg (by omega)]
  show { all r lf e m with W := put (all r lf e m).W (m + 1) ⟨m + 1, lf (m + 1), e, 7, true, r.now⟩ } = _
  rw [this]; rfl
theorem find_range {α : Type} (f : Nat → α) (p : α → Bool) {N j : Nat} (hj : j < N) (h1 : ∀ i, i < j → p (f i) = false) (h2 : p (f j) = true) : ((List.range N).map f).find? p = some (f j) := by
  rw [find_map]
  have : (List.range N).find? (fun a => p (f a)) = some j := List.find?_range_eq_some.2 ⟨h2, List.mem_range.2 hj, fun i hi => by simp [h1 i hi]⟩
  rw [this]; rfl
theorem find_range_none {α : Type} (f : Nat → α) (p : α → Bool) {N : Nat} (h1 : ∀ i, i < N → p (f i) = false) : ((List.range N).map f).find? p = none := by
  rw [List.find?_eq_none]
  intro x hx
  obtain ⟨i, hi, rfl⟩ := List.mem_map.1 hx
  simp [h1 i (List.mem_range.1 hi)]
theorem gms_len (lf : Nat → Nat) (k a s : Nat) : (gms lf k a s).length = k + a := by simp [gms]
theorem gms_at (lf : Nat → Nat) (k a s i : Nat) (h : i < (gms lf k a s).length) : (gms lf k a s)[i] = gM lf k s i := by simp [gms]
theorem gms_atN (lf : Nat → Nat) (k a s i : Nat) (hi : i < k + a) : View.atN (gms lf k a s) (i + 1) = some i := by
  unfold View.atN
  rw [List.findIdx?_eq_some_iff_getElem]
  refine ⟨by rw [gms_len]; exact hi, by rw [gms_at]; simp [gM], fun j hj => ?_⟩
  rw [gms_at]; simp [gM]; omega
theorem gms_no (lf : Nat → Nat) (k a s x : Nat) (hx : k + a < x) : View.atN (gms lf k a s) x = none := by
  unfold View.atN
  rw [List.findIdx?_eq_none_iff]
  intro m hm
  obtain ⟨i, hi, rfl⟩ := List.mem_map.1 hm
  have := List.mem_range.1 hi
  simp [gM]; omega
theorem gV_wf {n k : Nat} {lf : Nat → Nat} (hp : Gp n k lf) {a s : Nat} (han : k + a ≤ n) : WF (gV lf k a s) := by
  have h1 := hp.k1
  have h8 := hp.n8
  refine ⟨?_, ?_, ?_, ?_, by show (0 : Int) ≤ 1 + a; omega, by show (1 : Int) + a ≤ _; omega, ?_⟩
  · show (gms lf k a s).length ≤ 8; rw [gms_len]; omega
  · show ((gms lf k a s).map (·.node)).Nodup
    unfold gms List.Nodup
    rw [List.map_map, List.pairwise_map]
    exact List.Pairwise.imp (fun h => by simp only [Function.comp, gM]; omega) (List.pairwise_lt_range (n := k + a))
  · intro m hm
    obtain ⟨i, hi, rfl⟩ := List.mem_map.1 hm
    have := List.mem_range.1 hi
    have := hp.l1 (i + 1)
    refine ⟨by simp [gM], by simp [gM]; omega, by simp only [gM]; omega, ?_⟩
    simp only [gM, gV, gL, Nat.add_sub_cancel]
    rw [if_pos (by assumption)]
  · exact View.ready_pos (m := gM lf k s 0) (List.mem_map.2 ⟨0, List.mem_range.2 (by omega), rfl⟩) (by simp [gM]; omega)
  · intro i
    show gL lf k a i < 256
    unfold gL
    have := hp.l1 (i + 1)
    split <;> omega
section
variable {n k : Nat} {lf : Nat → Nat} {a s g : Nat} {r : RS}
/-- the roster when all have told -/
abbrev gR (r : RS) (lf : Nat → Nat) (a n : Nat) : RS := all (tick r) lf (1 + (a : Int)) n
theorem Gr.fits (h : Gr n k lf a s g r) (_hp : Gp n k lf) (m : Nat) (h1 : 1 ≤ m) (h2 : m ≤ n) : (r.W m).l ≤ lf m := by
  have := h.W m
  rwa [if_pos ⟨h1, h2⟩] at this
theorem gR_lost (h : Gr n k lf a s g r) (hp : Gp n k lf) (i : Nat) (hi : i < k + a) : lost (gR r lf a n) (gM lf k s i) = false := by
  have h1 := h.an
  have h2 := hp.l1 (i + 1)
  have hw : (gR r lf a n).W (i + 1) = ⟨i + 1, lf (i + 1), 1 + (a : Int), 7, true, r.now + 1⟩ := by rw [gR, all_W, if_pos (by omega)]; rfl
  have h3 : (gR r lf a n).now = r.now + 1 := rfl
  have h4 : (gR r lf a n).su = 50 := h.su
  unfold lost has
  show (decide (lf (i + 1) < ((gR r lf a n).W (i + 1)).l) || _ && _ || _ && _) = false
  rw [show (gM lf k s i).node = i + 1 from rfl, hw, h3, h4, show (gM lf k s i).life = lf (i + 1) from rfl]
  have : (0 : Nat) < lf (i + 1) := by omega
  simp [this]
theorem gR_words (r : RS) : words r = (List.range 9).map r.W := rfl
theorem gR_rem (h : Gr n k lf a s g r) (hp : Gp n k lf) : (gV lf k a s).ms.find? (remB (gR r lf a n) (gV lf k a s)) = none :=
  find_range_none (gM lf k s) _ fun i hi => by unfold remB; rw [gR_lost h hp i hi]; rfl
theorem gR_add0 (h : Gr n k lf a s g r) (_hp : Gp n k lf) (i : Nat) (hi : i ≤ k + a ∨ n < i) : addB (gR r lf a n) (gV lf k a s) ((gR r lf a n).W i) = false := by
  by_cases h1 : 1 ≤ i ∧ i ≤ n
  · have hw : (gR r lf a n).W i = ⟨i, lf i, 1 + (a : Int), 7, true, r.now + 1⟩ := by rw [gR, all_W, if_pos h1]; rfl
    have hat := gms_atN lf k a s (i - 1) (by omega)
    rw [show i - 1 + 1 = i by omega] at hat
    rw [hw]
    unfold addB
    have : (ap (gV lf k a s) (addC ⟨i, lf i, 1 + (a : Int), 7, true, r.now + 1⟩)).2 = false := by
      unfold ap View.applyV addC View.addV View.may
      rw [if_neg (show ¬ (1 = 0) by decide), if_pos rfl, if_neg]
      intro hm
      have := of_decide_eq_true hm
      rw [show (gV lf k a s).ms = gms lf k a s from rfl, hat] at this
      cases this.2.2.2.2.1
    rw [this, Bool.and_false]
  · refine add_zero _ _ _ ?_
    rw [gR, all_W, if_neg h1]
    have := h.W i
    rw [if_neg h1] at this
    show (r.W i).l = 0
    omega
theorem gR_may (h : Gr n k lf a s g r) (hp : Gp n k lf) (hlt : k + a < n) : ap (gV lf k a s) ⟨1, k + a + 1, lf (k + a + 1), 0, 0⟩ = (gV lf k (a + 1) s, true) := by
  have h8 := hp.n8
  have hl := hp.l1 (k + a + 1)
  have hsa := h.sa
  unfold ap View.applyV View.addV
  rw [if_neg (show ¬ (1 = 0) by decide), if_pos rfl, if_pos, if_neg]
  · have e1 : gms lf k a s ++ [⟨k + a + 1, lf (k + a + 1), false⟩] = gms lf k (a + 1) s := by
      unfold gms
      rw [show k + (a + 1) = k + a + 1 by omega, List.range_succ, List.map_append]
      congr 1
      simp only [List.map_cons, List.map_nil, gM]
      rw [decide_eq_false (by omega)]
    have e2 : View.upd (gL lf k a) (k + a + 1 - 1) (lf (k + a + 1)) = gL lf k (a + 1) := funext fun i => by
      unfold View.upd gL
      by_cases h : i = k + a
      · rw [if_pos (by omega), if_pos (by omega), h]
      · rw [if_neg (by omega)]
        by_cases h2 : i < k + a
        · rw [if_pos h2, if_pos (by omega)]
        · rw [if_neg h2, if_neg (by omega)]
    show ((⟨1 + (a : Int) + 1, gms lf k a s ++ [⟨k + a + 1, lf (k + a + 1), false⟩], View.upd (gL lf k a) (k + a + 1 - 1) (lf (k + a + 1))⟩ : VS), true) = _
    rw [e1, e2, gV]
    congr 2
  · show ¬ (1 + (a : Int) = 4294967295); omega
  · unfold View.may
    refine decide_eq_true ⟨by show 1 ≤ k + a + 1; omega, by show k + a + 1 ≤ 8; omega, hl.1, hl.2, gms_no lf k a s _ (Nat.lt_succ_self _), by show (gms lf k a s).length < 8; rw [gms_len]; omega, ?_⟩
    show gL lf k a (k + a + 1 - 1) < lf (k + a + 1)
    unfold gL; rw [if_neg (by omega)]; exact hl.1
theorem want_add (h : Gr n k lf a s g r) (hp : Gp n k lf) (hlt : k + a < n) : want (gR r lf a n) (gV lf k a s) = some ⟨1, k + a + 1, lf (k + a + 1), 0, 0⟩ := by
  have h8 := hp.n8
  have hl := hp.l1 (k + a + 1)
  have hw : (gR r lf a n).W (k + a + 1) = ⟨k + a + 1, lf (k + a + 1), 1 + (a : Int), 7, true, r.now + 1⟩ := by rw [gR, all_W, if_pos (by omega)]; rfl
  have ha : addB (gR r lf a n) (gV lf k a s) ((gR r lf a n).W (k + a + 1)) = true := by
    rw [hw]
    unfold addB addC
    dsimp only
    rw [gR_may h hp hlt]
    have : (gR r lf a n).now = r.now + 1 := rfl
    rw [this, show (gR r lf a n).su = 50 from h.su]
    simp
    omega
  unfold want
  rw [gR_rem h hp, gR_words, find_range (gR r lf a n).W _ (show k + a + 1 < 9 by omega) (fun i hi => gR_add0 h hp i (.inl (by omega))) ha]
  dsimp only
  rw [hw]; rfl
theorem gR_has (_h : Gr n k lf a s g r) (hp : Gp n k lf) (i : Nat) (hi : i < n) : has (gR r lf a n) (gM lf k s i) = true := by
  have hl := hp.l1 (i + 1)
  unfold has
  show (((gR r lf a n).W (i + 1)).l == lf (i + 1) && decide (0 < ((gR r lf a n).W (i + 1)).l)) = true
  rw [gR, all_W, if_pos (by omega)]
  simp; omega
theorem gR_set (h : Gr n k lf a s g r) (hp : Gp n k lf) (i : Nat) (hi : i < n) : setB (gR r lf a n) (gV lf k a s) (gM lf k s i) = !decide (i < k + s) := by
  unfold setB
  rw [gR_has h hp i hi]
  show (true && !decide (i < k + s) && ((gR r lf a n).W (i + 1)).c && (((gR r lf a n).W (i + 1)).e == 1 + (a : Int))) = _
  rw [gR, all_W, if_pos (by omega)]
  simp
theorem gR_gr (h : Gr n k lf a s g r) (hp : Gp n k lf) (i : Nat) (hi : i < n) : grB (gR r lf a n) (gV lf k a s) (gM lf k s i) = !decide (i < g) := by
  unfold grB grC
  rw [gR_has h hp i hi]
  show (true && (((gR r lf a n).W (i + 1)).e == 1 + (a : Int)) && !(((gR r lf a n).W (i + 1)).q == 0) && !(r.G (i + 1) == ⟨4, i + 1, lf (i + 1), 1 + (a : Int), ((gR r lf a n).W (i + 1)).q⟩)) = _
  rw [gR, all_W, if_pos (by omega), h.G, gG]
  by_cases hg : i < g
  · rw [if_pos (by omega)]; simp [hg]
  · rw [if_neg (by omega)]
    have : (c0 == (⟨4, i + 1, lf (i + 1), 1 + (a : Int), 7⟩ : Cmd)) = false := by
      rw [beq_eq_false_iff_ne]; intro e; cases e
    simp [this, hg]
theorem want_pre (h : Gr n k lf a s g r) (hp : Gp n k lf) (hn : k + a = n) : want (gR r lf a n) (gV lf k a s) = match (gV lf k a s).ms.find? (setB (gR r lf a n) (gV lf k a s)) with
      | some m => some (setC m)
      | none => ((gV lf k a s).ms.find? (grB (gR r lf a n) (gV lf k a s))).map (grC (gR r lf a n) (gV lf k a s)) := by
  unfold want
  rw [gR_rem h hp, gR_words, find_range_none (gR r lf a n).W _ fun i hi => gR_add0 h hp i (by omega)]
  rfl
theorem want_set (h : Gr n k lf a s g r) (hp : Gp n k lf) (hn : k + a = n) (hs : s < a) : want (gR r lf a n) (gV lf k a s) = some ⟨3, k + s + 1, lf (k + s + 1), 0, 0⟩ := by
  rw [want_pre h hp hn, show (gV lf k a s).ms = (List.range (k + a)).map (gM lf k s) from rfl, find_range (gM lf k s) _ (show k + s < k + a by omega) (fun i hi => by rw [gR_set h hp i (by omega)]; simp [hi]) (by rw [gR_set h hp (k + s) (by omega)]; simp)]
  rfl
theorem want_gr (h : Gr n k lf a s g r) (hp : Gp n k lf) (hn : k + s = n) (hg : g < n) : want (gR r lf a n) (gV lf k a s) = some ⟨4, g + 1, lf (g + 1), 1 + (a : Int), 7⟩ := by
  have hsa := h.sa
  have han := h.an
  rw [want_pre h hp (by omega), show (gV lf k a s).ms = (List.range (k + a)).map (gM lf k s) from rfl, find_range_none (gM lf k s) _ (fun i hi => by rw [gR_set h hp i (by omega)]; simp; omega),
    find_range (gM lf k s) _ (show g < k + a by omega) (fun i hi => by rw [gR_gr h hp i (by omega)]; simp [hi]) (by rw [gR_gr h hp g (by omega)]; simp)]
  show some (⟨4, g + 1, lf (g + 1), 1 + (a : Int), ((gR r lf a n).W (g + 1)).q⟩ : Cmd) = _
  rw [gR, all_W, if_pos (by omega)]
theorem want_end (h : Gr n k lf a s g r) (hp : Gp n k lf) (hn : k + s = n) (hg : g = n) : want (gR r lf a n) (gV lf k a s) = none := by
  have hsa := h.sa
  have han := h.an
  rw [want_pre h hp (by omega), show (gV lf k a s).ms = (List.range (k + a)).map (gM lf k s) from rfl, find_range_none (gM lf k s) _ (fun i hi => by rw [gR_set h hp i (by omega)]; simp; omega),
    find_range_none (gM lf k s) _ (fun i hi => by rw [gR_gr h hp i (by omega)]; simp; omega)]
  rfl
theorem ap_set (_hp : Gp n k lf) (hs : s < a) : ap (gV lf k a s) ⟨3, k + s + 1, lf (k + s + 1), 0, 0⟩ = (gV lf k a (s + 1), true) := by
  have hat := gms_atN lf k a s (k + s) (by omega)
  have hl : k + s < (gms lf k a s).length := by rw [gms_len]; omega
  unfold ap View.applyV
  dsimp only
  rw [if_neg (by decide), if_neg (by decide)]
  rw [show (gV lf k a s).ms = gms lf k a s from rfl, hat]
  dsimp only
  rw [List.getElem?_eq_getElem hl, gms_at]
  dsimp only
  rw [if_neg (by simp [gM]), if_neg (by decide), if_pos rfl]
  have : (gms lf k a s).set (k + s) { gM lf k s (k + s) with ready := true } = gms lf k a (s + 1) := by
    refine List.ext_getElem (by simp [gms]) fun i h1 h2 => ?_
    rw [List.getElem_set, gms_at]
    split
    · subst_vars; rw [gms_at]; simp [gM]
    · rw [gms_at]; simp only [gM, Mem.mk.injEq, decide_eq_decide, true_and]; omega
  rw [this]; rfl
theorem ap_gr (_hp : Gp n k lf) (hg : g < k + a) : ap (gV lf k a s) ⟨4, g + 1, lf (g + 1), 1 + (a : Int), 7⟩ = (gV lf k a s, true) := by
  have hat := gms_atN lf k a s g hg
  have hl : g < (gms lf k a s).length := by rw [gms_len]; omega
  unfold ap View.applyV
  dsimp only
  rw [if_neg (by decide), if_neg (by decide)]
  rw [show (gV lf k a s).ms = gms lf k a s from rfl, hat]
  dsimp only
  rw [List.getElem?_eq_getElem hl, gms_at]
  dsimp only
  rw [if_neg (by simp [gM]), if_neg (by decide), if_neg (by decide)]
  congr 1
  exact decide_eq_true ⟨rfl, rfl⟩
theorem all_bd {r : RS} (h : Bd r) (lf : Nat → Nat) (e : Int) (m : Nat) : Bd (all r lf e m) :=
  ⟨h.n0, fun i => by rw [all_W]; split; exact ⟨h.n0, Int.le_refl _⟩; exact h.a i, h.S⟩
theorem Gr.told (h : Gr n k lf a s g r) (_hp : Gp n k lf) (m : Nat) : ((gR r lf a n).W m).l ≤ if 1 ≤ m ∧ m ≤ n then lf m else 0 := by
  rw [gR, all_W]
  have := h.W m
  split
  · exact Nat.le_refl _
  · rename_i hh; rw [if_neg hh] at this; exact this
theorem Gr.add (h : Gr n k lf a s g r) (hp : Gp n k lf) (hlt : k + a < n) : Gr n k lf (a + 1) s g (gR r lf a n) := by
  have h0 : g = 0 := by have := h.g0; have := h.sa; omega
  have hs0 : s = 0 := by have := h.s0; omega
  have hn := h.now
  refine ⟨by omega, by omega, by omega, by omega, h.gn, h.su, h.wa, by show r.now + 1 = _; omega, ?_, h.told hp, all_bd h.bd.tick _ _ _⟩
  show r.G = _
  rw [h.G, h0]
  exact funext fun i => by unfold gG; rw [if_neg (by omega), if_neg (by omega)]
theorem Gr.set (h : Gr n k lf a s g r) (hp : Gp n k lf) (hn : k + a = n) (hs : s < a) : Gr n k lf a (s + 1) g (gR r lf a n) := by
  have h0 : g = 0 := by have := h.g0; omega
  have hnn := h.now
  exact ⟨by omega, h.an, by omega, by omega, h.gn, h.su, h.wa, by show r.now + 1 = _; omega, h.G, h.told hp, all_bd h.bd.tick _ _ _⟩
theorem gr_granted (h : Gr n k lf a s g r) (hp : Gp n k lf) (hg : g < n) : granted (gR r lf a n) ⟨4, g + 1, lf (g + 1), 1 + (a : Int), 7⟩ = { gR r lf a n with S := put (gR r lf a n).S (g + 1) (r.now + 1), G := gG lf a (g + 1) } := by
  have h8 := hp.n8
  unfold granted
  rw [if_pos (show grantB ⟨4, g + 1, lf (g + 1), 1 + (a : Int), 7⟩ = true by unfold grantB; exact decide_eq_true ⟨rfl, by show 1 ≤ g + 1; omega, by show g + 1 ≤ 8; omega⟩)]
  have : put r.G (g + 1) ⟨4, g + 1, lf (g + 1), 1 + (a : Int), 7⟩ = gG lf a (g + 1) := funext fun i => by
    rw [h.G]; unfold put gG
    by_cases h1 : i = g + 1
    · rw [if_pos h1, if_pos (by omega), h1]
    · rw [if_neg h1]
      by_cases h2 : 1 ≤ i ∧ i ≤ g
      · rw [if_pos h2, if_pos (by omega)]
      · rw [if_neg h2, if_neg (by omega)]
  show ({ gR r lf a n with S := put (gR r lf a n).S (g + 1) (r.now + 1), G := put r.G (g + 1) ⟨4, g + 1, lf (g + 1), 1 + (a : Int), 7⟩ } : RS) = _
  rw [this]
theorem Gr.gr (h : Gr n k lf a s g r) (hp : Gp n k lf) (hn : k + s = n) (hg : g < n) : Gr n k lf a s (g + 1) (granted (gR r lf a n) ⟨4, g + 1, lf (g + 1), 1 + (a : Int), 7⟩) := by
  have hnn := h.now
  have hb : Bd (granted (gR r lf a n) ⟨4, g + 1, lf (g + 1), 1 + (a : Int), 7⟩) := (all_bd h.bd.tick _ _ _).granted _
  rw [gr_granted h hp hg] at *
  exact ⟨h.sa, h.an, h.s0, fun _ => hn, by omega, h.su, h.wa, by show r.now + 1 = _; omega, rfl, h.told hp, hb⟩
end
end Go.Proofs.Ytidhblpcaccchaa.Ros
