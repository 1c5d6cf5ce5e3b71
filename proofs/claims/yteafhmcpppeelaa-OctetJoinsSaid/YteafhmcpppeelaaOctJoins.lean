/- OctetJoins: the walk of the law's function. -/
import Derived.Test.YteafhmcpppeelaaJoinTold
import Derived.Test.YteafhmcpppeelaaBaseC
import Derived.Deep.DeepCutAuto
namespace Go.Proofs.Yteafhmcpppeelaa
open Go.RowKit
namespace Joins
open Oct

theorem norm_bytes (q : Part) : (norm q).bytes = q.bytes := by
  unfold norm Part.bytes
  by_cases h1 : q.kind = 1
  · simp [h1]
  · by_cases h2 : q.kind = 2
    · simp [h2]
    · by_cases h3 : q.kind = 3
      · simp [h3]
      · simp [h1, h2, h3]
theorem join_norm : ∀ (qs : List Part) (acc : List UInt8), joinRes (qs.map norm) acc = joinRes qs acc
  | [], _ => rfl
  | q :: qs, acc => by
    show (if (norm q).bytes.2 ≠ 0 then ([], (norm q).bytes.2) else joinRes (qs.map norm) (acc ++ (norm q).bytes.1)) = _
    rw [norm_bytes, join_norm qs]; rfl
theorem norm_le (q : Part) : (norm q).s.size ≤ q.s.size ∧ (norm q).n ≤ q.n := by
  unfold norm
  split
  · exact ⟨Nat.zero_le _, Nat.le_refl _⟩
  · split
    · exact ⟨Nat.le_refl _, Nat.zero_le _⟩
    · split
      · exact ⟨Nat.le_refl _, Nat.zero_le _⟩
      · exact ⟨Nat.zero_le _, Nat.zero_le _⟩
theorem room_le : ∀ (qs : List Part) (_ : ∀ q ∈ qs, q.s.size ≤ 300), room qs ≤ qs.length * 309
  | [], _ => by simp [room]
  | q :: qs, h => by
    have := room_le qs (fun x hx => h x (by simp [hx]))
    have h0 := h q (by simp)
    simp only [room, List.map_cons, List.sum_cons, List.length_cons] at this ⊢
    omega
theorem takeL_front (l r : List UInt8) (n : Int) (hn : n = l.length) : takeL (l ++ r) 0 0 n = (l, r, 0) := by
  subst hn
  unfold takeL
  rw [if_neg (by simp), if_neg (by omega), if_neg (by rw [List.length_append]; omega)]
  simp
theorem takeL_text (c : UInt8) (l r : List UInt8) (h : c.toNat = l.length) : takeL (c :: (l ++ r)) 0 1 c.toNat = (l, r, 0) := by
  unfold takeL
  rw [if_neg (by simp), if_neg (by omega), if_neg (by rw [List.length_cons, List.length_append]; omega), h]
  rw [show ((1 : Int) + (l.length : Int)).toNat = l.length + 1 by omega]
  simp
theorem flat_le : ∀ (qs : List Part) (_ : ∀ q ∈ qs, q.s.size ≤ 300), (qs.flatMap (·.bytes.1)).length ≤ qs.length * 309
  | [], _ => by simp
  | q :: qs, h => by
    have := flat_le qs (fun x hx => h x (by simp [hx]))
    have h0 := h q (by simp)
    have h1 := bytes_le q
    rw [List.flatMap_cons, List.length_append, List.length_cons]
    omega
def good (q : Part) : Prop := q.bytes.2 = 0
/-- no error: the bytes one after another -/
theorem join_ok : ∀ (qs : List Part) (acc : List UInt8), (joinRes qs acc).2 = 0 → (joinRes qs acc).1 = acc ++ qs.flatMap (·.bytes.1) ∧ ∀ q ∈ qs, good q
  | [], acc, _ => by simp [joinRes]
  | q :: qs, acc, h => by
    by_cases hq : q.bytes.2 = 0
    · have e : joinRes (q :: qs) acc = joinRes qs (acc ++ q.bytes.1) := by
        show (if q.bytes.2 ≠ 0 then _ else _) = _
        rw [if_neg (by simp [hq])]
      rw [e] at h ⊢
      obtain ⟨h1, h2⟩ := join_ok qs _ h
      refine ⟨by rw [h1, List.flatMap_cons, List.append_assoc], fun x hx => ?_⟩
      rcases List.mem_cons.1 hx with rfl | hx
      · exact hq
      · exact h2 x hx
    · have e : joinRes (q :: qs) acc = ([], q.bytes.2) := by
        show (if q.bytes.2 ≠ 0 then _ else _) = _
        rw [if_pos hq]
      rw [e] at h
      exact absurd h hq
theorem cells_len (p : Part) : p.cells.length = 4 := rfl
theorem getN_be : ∀ (k n : Nat), n < 256 ^ k → getN (be k n) = n
  | 0, n, h => by
    have : n = 0 := by simpa using h
    subst this; rfl
  | k + 1, n, h => by
    show getN (be k (n / 256) ++ [UInt8.ofNat n]) = n
    rw [getN_snoc, getN_be k (n / 256) (by rw [Nat.div_lt_iff_lt_mul (by omega), ← Nat.pow_succ]; exact h), UInt8.toNat_ofNat']
    omega
/-- a slice of the call's own, as the appends have it -/
def Inv (w : World) (B len gk : Nat) (s3 s4 s5 : Value) (wr : World) : Prop :=
  ∃ qs : List Part, qs.length ≤ 20 ∧ qs.length ≤ len ∧ gk = 20 - qs.length ∧ s5 = .int .i64 qs.length ∧ wr.ownsRow B 71 4 s3 qs.length ((qs.map norm).flatMap Part.cells) ∧
    wr.ownsRow B 88 4 s4 qs.length (qs.flatMap Part.cells) ∧ (∀ q ∈ qs, q.s.size ≤ 300 ∧ q.n < 18446744073709551616) ∧ B ≤ wr.heap.size ∧ w.heap.size ≤ B ∧ Below w.heap.size w wr
/-- two rows of the call's own, while the call goes on -/
structure St (w : World) (B : Nat) (u v : Value) (n m : Nat) (xs ys : List Value) (wx : World) : Prop where
  a : wx.ownsRow B 71 4 u n xs
  b : wx.ownsRow B 88 4 v m ys
  below : Below w.heap.size w wx
  size : B ≤ wx.heap.size
  base : w.heap.size ≤ B
section
variable {w wx wy : World} {B n m n' : Nat} {u v u' : Value} {xs ys zs : List Value}
theorem St.alloc (h : St w B u v n m xs ys wx) (o : Obj) : St w B u v n m xs ys (wx.alloc o) := ⟨h.a.alloc o, h.b.alloc o, bl_alloc h.below o, by have := h.size; simp; omega, h.base⟩
theorem St.drew (h : St w B u v n m xs ys wx) : St w B u v n m xs ys wx.drew := ⟨h.a, h.b, below_drewN h.below 1, h.size, h.base⟩
theorem St.growA (h : St w B u v n m xs ys wx) (hg : wx.grownBy wy u.ownBlock) (ho : wy.ownsRow B 71 4 u' n' zs) : St w B u' v n' m zs ys wy :=
  ⟨ho, h.b.kept hg (own_apart h.b h.a (by decide)), below_grown h.below (by have := h.size; have := h.base; omega) hg (fun k hk => by have := (h.a.lt k hk).1; have := h.base; omega) (by have := h.size; have := h.base; omega), Nat.le_trans h.size hg.size, h.base⟩
theorem St.growB (h : St w B u v n m xs ys wx) (hg : wx.grownBy wy v.ownBlock) (ho : wy.ownsRow B 88 4 u' n' zs) : St w B u u' n n' xs zs wy :=
  ⟨h.a.kept hg (own_apart h.a h.b (by decide)), ho, below_grown h.below (by have := h.size; have := h.base; omega) hg (fun k hk => by have := (h.b.lt k hk).1; have := h.base; omega) (by have := h.size; have := h.base; omega), Nat.le_trans h.size hg.size, h.base⟩
end
theorem one_cells (p : Part) : ∀ u ∈ p.cells, u.oneCell' = true := by simp [Part.cells, Value.oneCell']
theorem far_le {w : World} {base : Nat} {e : TypeId} {size : Nat} {v : Value} {n : Nat} {xs : List Value} (h : w.ownsRow base e size v n xs) {g : Nat} (hg : w.heap.size ≤ g) : some g ≠ v.ownBlock := fun e => by have := (h.lt _ e.symm).2; omega
theorem infoA : (Try.prog.info? 71).map (fun i => (i.zero, i.size, i.bytes)) = some (some (.agg #[.int .i64 0, .int .i64 0, .int .u64 0, .string ⟨#[]⟩]), 4, 40) := by kernel_rfl
theorem infoB : (Try.prog.info? 88).map (fun i => (i.zero, i.size, i.bytes)) = some (some (.agg #[.int .i64 0, .int .i64 0, .int .u64 0, .string ⟨#[]⟩]), 4, 40) := by kernel_rfl

set_option maxRecDepth 100000 in
set_option maxHeartbeats 4000000 in
theorem OctetJoins_walk (A : Option Addr) (c : Nat) (ps : List Part) (w : World) (hA : RowsAt w w.heap.size 4 A (ps.map Part.cells)) (hn : ∀ p ∈ ps, p.n < 18446744073709551616 ∧ p.s.size ≤ 9223372036854775807) (hl : ps.length ≤ 9223372036854775807) :
    Calls Try.prog 8 #[.slice A ps.length c] w fun e w' => e = .returned (.bool true) ∧ Below w.heap.size w w' := by
  have HA := Lib.hid hA
  have HN := Lib.hid hn
  clear hA hn
  go_enter Try.func8, Try.ntmps8
  go_wp2_with fail
  refine (speaks _).mono ?_; rintro e w1 ⟨rfl, hb1⟩
  go_wp2_with fail
  go_loopg [3, 4, 5] 20 (fun gk s3 s4 s5 wr => Inv w w1.heap.size ps.length gk s3 s4 s5 wr)
  case atStart => exact ⟨[], by simp, by simp, rfl, rfl, World.ownsRow_nil _ _ _ _, World.ownsRow_nil _ _ _ _, by simp, Nat.le_refl _, hb1.size, hb1⟩
  case round =>
    obtain ⟨qs, hk, hkl, rfl, rfl, ha, hb, hq, hB, hwB, hbel⟩ := hrel
    have HP := Lib.hid ha
    have HQ := Lib.hid hb
    have HW := Lib.hid hbel
    have HG := Lib.hid hq
    clear ha hb hbel hq
    by_cases hlt : qs.length < ps.length ∧ qs.length < 20
    · obtain ⟨hlt1, hlt2⟩ := hlt
      obtain ⟨b, off, rfl, hbb, hc⟩ := HA.out (by intro h; rw [List.map_eq_nil_iff] at h; subst h; simp at hlt1)
      have hc := hc qs.length (ps[qs.length]).cells (by simp [hlt1])
      have cell : ∀ j u, ((ps[qs.length]).cells)[j]? = some u → wr.cell? ⟨b, off + qs.length * 4 + j, none⟩ = some u := fun j u hu => (HW.out.cell hbb).trans (hc j u hu)
      have c0 : wr.cell? ⟨b, off + qs.length * 4, none⟩ = some (.int .i64 (ps[qs.length]).kind) := cell 0 _ rfl
      have c1 := cell 1 _ rfl
      have c2 := cell 2 _ rfl
      have c3 := cell 3 _ rfl
      have hpn := HN.out (ps[qs.length]) (by simp)
      clear cell hc
      generalize ps[qs.length] = p at *
      obtain ⟨d, sz, n, s⟩ := p
      have x0 : wr.cell? ⟨b, off + qs.length * 4, none⟩ = some (.int .i64 d) := c0
      have x1 : wr.cell? ⟨b, off + qs.length * 4 + 1, none⟩ = some (.int .i64 sz) := c1
      have x2 : wr.cell? ⟨b, off + qs.length * 4 + 2, none⟩ = some (.int .u64 (n : Int)) := c2
      have x3 : wr.cell? ⟨b, off + qs.length * 4 + 3, none⟩ = some (.string s) := c3
      have hn8 : n < 18446744073709551616 := hpn.1
      have hs8 : s.size ≤ 9223372036854775807 := hpn.2
      clear c0 c1 c2 c3 hpn
      go_upto_region 10 with (fail)
      have hmn : (if (300 : Int) < s.size then (300 : Int) else s.size) ≤ 300 ∧ 0 ≤ (if (300 : Int) < s.size then (300 : Int) else s.size) := by split <;> omega
      generalize (if (300 : Int) < s.size then (300 : Int) else s.size) = mn at *
      have ht : (s.extract 0 mn.toNat).size ≤ 300 := by rw [ByteArray.size_extract]; omega
      clear hc x0 x1 x2 x3 hs8 hmn
      generalize s.extract 0 mn.toNat = t at *
      have B2 := bl_alloc HW.out (.cells #[.int .i64 d, .int .i64 sz, .int .u64 (n : Int), .string t] 87)
      have P2 := HP.out.alloc (.cells #[.int .i64 d, .int .i64 sz, .int .u64 (n : Int), .string t] 87)
      have Q2 := HQ.out.alloc (.cells #[.int .i64 d, .int .i64 sz, .int .u64 (n : Int), .string t] 87)
      have Z2 : w1.heap.size ≤ (wr.alloc (.cells #[.int .i64 d, .int .i64 sz, .int .u64 (n : Int), .string t] 87)).heap.size := by simp; omega
      have X2 := Blk.new wr 87 #[.int .i64 d, .int .i64 sz, .int .u64 (n : Int), .string t]
      generalize hgx : wr.heap.size = gx at *
      generalize wr.alloc (.cells #[.int .i64 d, .int .i64 sz, .int .u64 (n : Int), .string t] 87) = w2 at *
      have e0 := X2.cell 0
      have e1 := X2.cell 1
      have e2 := X2.cell 2
      have e3 := X2.cell 3
      simp at e0 e1 e2 e3
      have P2 := Lib.hid P2
      have Q2 := Lib.hid Q2
      have B2 := Lib.hid B2
      clear X2
      go_wp2_with fail
      refine (told _ _ _ _ _).mono ?_
      rintro e w3 ⟨d, hd, rfl, hb3⟩
      clear e0 e1 e2 e3
      generalize hq : (⟨d, sz, n, t⟩ : Part) = q at *
      have hqs : q.s.size ≤ 300 ∧ q.n < 18446744073709551616 := by subst hq; exact ⟨ht, hn8⟩
      have B3 := Lib.hid (bl_next B2.out hb3)
      have P3 := Lib.hid (ownsRow_below P2.out hb3 (Nat.le_refl _))
      have Q3 := Lib.hid (ownsRow_below Q2.out hb3 (Nat.le_refl _))
      have hz3 := hb3.size
      clear hq hd ht hn8 hb3 P2 Q2 B2
      unfold Part.val
      generalize hnp : norm q = p at *
      have HNP := Lib.hid hnp
      clear hnp
      go_upto_region 11 with (fail)
      have X5 := (Blk.new w3 71 #[.int .i64 p.kind, .int .i64 p.size, .int .u64 (p.n : Int), .string p.s]).alloc (.cells #[.int .i64 q.kind, .int .i64 q.size, .int .u64 (q.n : Int), .string q.s] 88)
      have Y5 := Blk.new (w3.alloc (.cells #[.int .i64 p.kind, .int .i64 p.size, .int .u64 (p.n : Int), .string p.s] 71)) 88 #[.int .i64 q.kind, .int .i64 q.size, .int .u64 (q.n : Int), .string q.s]
      rw [show (w3.alloc (.cells #[.int .i64 p.kind, .int .i64 p.size, .int .u64 (p.n : Int), .string p.s] 71)).heap.size = w3.heap.size + 1 by simp] at Y5
      have B5 := Lib.hid (bl_alloc (bl_alloc B3.out (.cells #[.int .i64 p.kind, .int .i64 p.size, .int .u64 (p.n : Int), .string p.s] 71)) (.cells #[.int .i64 q.kind, .int .i64 q.size, .int .u64 (q.n : Int), .string q.s] 88))
      have T5 : St w w1.heap.size u3 u4 qs.length qs.length _ _ _ := (St.mk P3.out Q3.out B3.out (by omega) hwB).alloc (.cells #[.int .i64 p.kind, .int .i64 p.size, .int .u64 (p.n : Int), .string p.s] 71) |>.alloc (.cells #[.int .i64 q.kind, .int .i64 q.size, .int .u64 (q.n : Int), .string q.s] 88)
      have na : some w3.heap.size ≠ u3.ownBlock := fun e => by have := (P3.out.lt _ e.symm).2; omega
      have na' : some (w3.heap.size + 1) ≠ u3.ownBlock := fun e => by have := (P3.out.lt _ e.symm).2; omega
      have nb : some w3.heap.size ≠ u4.ownBlock := fun e => by have := (Q3.out.lt _ e.symm).2; omega
      have nb' : some (w3.heap.size + 1) ≠ u4.ownBlock := fun e => by have := (Q3.out.lt _ e.symm).2; omega
      have lx := X5.lt
      have ly := Y5.lt
      generalize (w3.alloc (.cells #[.int .i64 p.kind, .int .i64 p.size, .int .u64 (p.n : Int), .string p.s] 71)).alloc (.cells #[.int .i64 q.kind, .int .i64 q.size, .int .u64 (q.n : Int), .string q.s] 88) = w5 at *
      obtain ⟨gp, hgp⟩ : ∃ gp, gp = w3.heap.size := ⟨_, rfl⟩
      obtain ⟨gq, hgq⟩ : ∃ gq, gq = w3.heap.size + 1 := ⟨_, rfl⟩
      rw [← hgq] at Y5 na' nb' ly ⊢
      rw [← hgp] at X5 na nb lx ⊢
      have p0 := X5.cell 0
      have p1 := X5.cell 1
      have p2 := X5.cell 2
      have p3 := X5.cell 3
      have q0 := Y5.cell 0
      have q1 := Y5.cell 1
      have q2 := Y5.cell 2
      have q3 := Y5.cell 3
      simp at p0 p1 p2 p3 q0 q1 q2 q3
      have P5 := Lib.hid T5.a
      have T5 := Lib.hid T5
      have NA := Lib.hid na
      have NA' := Lib.hid na'
      have NB := Lib.hid nb
      have NB' := Lib.hid nb'
      clear X5 Y5 hgq hgp na na' nb nb' P3 Q3
      obtain ⟨ia, hia, za0, za1, za2⟩ := info_parts infoA
      obtain ⟨ib, hib, zb0, zb1, zb2⟩ := info_parts infoB
      have hw5 : w1.heap.size ≤ w5.heap.size := T5.out.size
      go_region_held3 (fun w' => w'.cell? ⟨gp, 0, none⟩ = some (.int .i64 p.kind) ∧ w'.cell? ⟨gp, 1, none⟩ = some (.int .i64 p.size) ∧ w'.cell? ⟨gp, 2, none⟩ = some (.int .u64 (p.n : Int)) ∧ w'.cell? ⟨gp, 3, none⟩ = some (.string p.s) ∧ w'.cell? ⟨gq, 0, none⟩ = some (.int .i64 q.kind) ∧ w'.cell? ⟨gq, 1, none⟩ = some (.int .i64 q.size) ∧ w'.cell? ⟨gq, 2, none⟩ = some (.int .u64 (q.n : Int)) ∧ w'.cell? ⟨gq, 3, none⟩ = some (.string q.s))
        (first
          | go_keep
          | (go_split_ands; refine ⟨?_, ?_, ?_, ?_, ?_, ?_, ?_, ?_⟩ <;> (rw [hgB.cell_far _ (by simp; omega) (by first | exact NB.out | exact NB'.out)]; assumption))
          | (go_split_ands; refine ⟨?_, ?_, ?_, ?_, ?_, ?_, ?_, ?_⟩ <;> (rw [hgA.cell_far _ (by simp; omega) (by first | exact NA.out | exact NA'.out)]; assumption)))
        (first
          | (refine step_append_lies _ (by rfl) (.tmp 44) (.tmp 46) _ (by rfl) w1.heap.size 71 ia _ 4 40 Try.underlying84 hia za0 za1 za2 rfl (by omega) u3 qs.length (List.flatMap Part.cells (List.map norm qs)) (by rfl) ((T5.out.drew.alloc (.cells #[.int .i64 p.kind, .int .i64 p.size, .int .u64 (p.n : Int), .string p.s] 71)).alloc (.cells #[.int .i64 q.kind, .int .i64 q.size, .int .u64 (q.n : Int), .string q.s] 88)).a ⟨w5.heap.size, 0, none⟩ 1 1 p.cells (by rfl) (by rfl) (World.news_of_block (cs := #[.int .i64 p.kind, .int .i64 p.size, .int .u64 (p.n : Int), .string p.s]) (t := 71) (fr := (0, 0)) ((Blk.new w5 _ _).alloc _)) (one_cells _) (by omega) (by unfold maxLen; omega) (by omega) ((T5.out.drew.alloc (.cells #[.int .i64 p.kind, .int .i64 p.size, .int .u64 (p.n : Int), .string p.s] 71)).alloc (.cells #[.int .i64 q.kind, .int .i64 q.size, .int .u64 (q.n : Int), .string q.s] 88)).size _ rfl ?_; intro g1 c1 wA hownA hgA hatA hltA; have sA := hgA.size; simp at sA; have TA := Lib.hid (((T5.out.drew.alloc (.cells #[.int .i64 p.kind, .int .i64 p.size, .int .u64 (p.n : Int), .string p.s] 71)).alloc (.cells #[.int .i64 q.kind, .int .i64 q.size, .int .u64 (q.n : Int), .string q.s] 88)).growA hgA hownA); have YA := Lib.hid (Blk.grown (Blk.drew (Blk.new_ (w := w5.alloc (.cells #[.int .i64 p.kind, .int .i64 p.size, .int .u64 (p.n : Int), .string p.s] 71)) (t := 88) (cs := #[.int .i64 q.kind, .int .i64 q.size, .int .u64 (q.n : Int), .string q.s]) (g := w5.heap.size + 1) (by simp))) hgA (far_le P5.out (by omega))))
          | (refine step_append_lies _ (by rfl) (.tmp 44) (.tmp 46) _ (by rfl) w1.heap.size 71 ia _ 4 40 Try.underlying84 hia za0 za1 za2 rfl (by omega) u3 qs.length (List.flatMap Part.cells (List.map norm qs)) (by rfl) ((T5.out.drew.alloc (.cells #[.int .i64 q.kind, .int .i64 q.size, .int .u64 (q.n : Int), .string q.s] 88)).alloc (.cells #[.int .i64 p.kind, .int .i64 p.size, .int .u64 (p.n : Int), .string p.s] 71)).a ⟨w5.heap.size + 1, 0, none⟩ 1 1 p.cells (by rfl) (by rfl) (World.news_of_block (cs := #[.int .i64 p.kind, .int .i64 p.size, .int .u64 (p.n : Int), .string p.s]) (t := 71) (fr := (0, 0)) (Blk.new_ (w := w5.alloc (.cells #[.int .i64 q.kind, .int .i64 q.size, .int .u64 (q.n : Int), .string q.s] 88)) (by simp))) (one_cells _) (by omega) (by unfold maxLen; omega) (by omega) ((T5.out.drew.alloc (.cells #[.int .i64 q.kind, .int .i64 q.size, .int .u64 (q.n : Int), .string q.s] 88)).alloc (.cells #[.int .i64 p.kind, .int .i64 p.size, .int .u64 (p.n : Int), .string p.s] 71)).size _ rfl ?_; intro g1 c1 wA hownA hgA hatA hltA; have sA := hgA.size; simp at sA; have TA := Lib.hid (((T5.out.drew.alloc (.cells #[.int .i64 q.kind, .int .i64 q.size, .int .u64 (q.n : Int), .string q.s] 88)).alloc (.cells #[.int .i64 p.kind, .int .i64 p.size, .int .u64 (p.n : Int), .string p.s] 71)).growA hgA hownA); have YA := Lib.hid (Blk.grown (Blk.drew ((Blk.new w5 88 #[.int .i64 q.kind, .int .i64 q.size, .int .u64 (q.n : Int), .string q.s]).alloc (.cells #[.int .i64 p.kind, .int .i64 p.size, .int .u64 (p.n : Int), .string p.s] 71))) hgA (far_le P5.out (by omega))))
          | (refine step_append_lies _ (by rfl) (.tmp 44) (.tmp 46) _ (by rfl) w1.heap.size 71 ia _ 4 40 Try.underlying84 hia za0 za1 za2 rfl (by omega) u3 qs.length (List.flatMap Part.cells (List.map norm qs)) (by rfl) (T5.out.drew.alloc (.cells #[.int .i64 p.kind, .int .i64 p.size, .int .u64 (p.n : Int), .string p.s] 71)).a ⟨w5.heap.size, 0, none⟩ 1 1 p.cells (by rfl) (by rfl) (World.news_of_block (cs := #[.int .i64 p.kind, .int .i64 p.size, .int .u64 (p.n : Int), .string p.s]) (t := 71) (fr := (0, 0)) (Blk.new w5 _ _)) (one_cells _) (by omega) (by unfold maxLen; omega) (by omega) (T5.out.drew.alloc (.cells #[.int .i64 p.kind, .int .i64 p.size, .int .u64 (p.n : Int), .string p.s] 71)).size _ rfl ?_; intro g1 c1 wA hownA hgA hatA hltA; have sA := hgA.size; simp at sA; have TA := Lib.hid ((T5.out.drew.alloc (.cells #[.int .i64 p.kind, .int .i64 p.size, .int .u64 (p.n : Int), .string p.s] 71)).growA hgA hownA))
          | (refine step_append_lies _ (by rfl) (.tmp 48) (.tmp 50) _ (by rfl) w1.heap.size 88 ib _ 4 40 Try.underlying85 hib zb0 zb1 zb2 rfl (by omega) u4 qs.length (List.flatMap Part.cells qs) (by rfl) (TA.out).b ⟨w5.heap.size + 1, 0, none⟩ 1 1 q.cells (by rfl) (by rfl) (World.news_of_block (cs := #[.int .i64 q.kind, .int .i64 q.size, .int .u64 (q.n : Int), .string q.s]) (t := 88) (fr := (0, 0)) YA.out) (one_cells _) (by omega) (by unfold maxLen; omega) (by omega) (TA.out).size _ rfl ?_; intro g2 c2 wB hownB hgB hatB hltB; have TB := Lib.hid (TA.out.growB hgB hownB))
          | (refine step_append_lies _ (by rfl) (.tmp 48) (.tmp 50) _ (by rfl) w1.heap.size 88 ib _ 4 40 Try.underlying85 hib zb0 zb1 zb2 rfl (by omega) u4 qs.length (List.flatMap Part.cells qs) (by rfl) (TA.out).b ⟨w5.heap.size, 0, none⟩ 1 1 q.cells (by rfl) (by rfl) (World.news_of_block (cs := #[.int .i64 q.kind, .int .i64 q.size, .int .u64 (q.n : Int), .string q.s]) (t := 88) (fr := (0, 0)) YA.out) (one_cells _) (by omega) (by unfold maxLen; omega) (by omega) (TA.out).size _ rfl ?_; intro g2 c2 wB hownB hgB hatB hltB; have TB := Lib.hid (TA.out.growB hgB hownB))
          | (refine step_append_lies _ (by rfl) (.tmp 48) (.tmp 50) _ (by rfl) w1.heap.size 88 ib _ 4 40 Try.underlying85 hib zb0 zb1 zb2 rfl (by omega) u4 qs.length (List.flatMap Part.cells qs) (by rfl) (TA.out.alloc (.cells #[.int .i64 q.kind, .int .i64 q.size, .int .u64 (q.n : Int), .string q.s] 88)).b ⟨wA.heap.size, 0, none⟩ 1 1 q.cells (by rfl) (by rfl) (World.news_of_block (cs := #[.int .i64 q.kind, .int .i64 q.size, .int .u64 (q.n : Int), .string q.s]) (t := 88) (fr := (0, 0)) (Blk.new wA _ _)) (one_cells _) (by omega) (by unfold maxLen; omega) (by omega) (TA.out.alloc (.cells #[.int .i64 q.kind, .int .i64 q.size, .int .u64 (q.n : Int), .string q.s] 88)).size _ rfl ?_; intro g2 c2 wB hownB hgB hatB hltB; have TB := Lib.hid ((TA.out.alloc (.cells #[.int .i64 q.kind, .int .i64 q.size, .int .u64 (q.n : Int), .string q.s] 88)).growB hgB hownB)))
      all_goals
        have hend : Inv w w1.heap.size ps.length (20 - (qs.length + 1)) (.slice (some ⟨g1, 0, none⟩) (qs.length + 1) c1) (.slice (some ⟨g2, 0, none⟩) (qs.length + 1) c2) (.int .i64 (qs.length + 1 : Nat)) wB := by
          refine ⟨qs ++ [q], by simp; omega, by simp; omega, by simp, by simp, by simpa [HNP.out] using TB.out.a, by simpa using TB.out.b, ?_, TB.out.size, hwB, TB.out.below⟩
          intro x hx
          rcases List.mem_append.1 hx with hx | hx
          · exact HG.out x hx
          · simp at hx; subst hx; exact hqs
        have HE := Lib.hid hend
        clear hend
        go_wp2_with fail
        go_roundg (20 - (qs.length + 1))
        case measure => omega
        case rel => exact HE.out
    · have hx : ps.length ≤ qs.length ∨ (qs.length < ps.length ∧ 20 ≤ qs.length) := by omega
      obtain ⟨A1, cA, rfl, hcA, hrA⟩ := rows_of_own (f := Part.cells) cells_len (by decide) HP.out
      obtain ⟨B1, cB, rfl, hcB, hrB⟩ := rows_of_own (f := Part.cells) cells_len (by decide) HQ.out
      rw [List.length_map] at hcA
      have hroom := room_le qs (fun q hq => (HG.out q hq).1)
      have hroom2 := room_le (qs.map norm) (fun q hq => by
        obtain ⟨x, hx, rfl⟩ := List.mem_map.1 hq
        exact Nat.le_trans (norm_le x).1 (HG.out x hx).1)
      rw [List.length_map] at hroom2
      have hj1 := Join_any A1 cA (qs.map norm) wr hrA (by omega) (fun q hq => by
        obtain ⟨x, hx, rfl⟩ := List.mem_map.1 hq
        exact Nat.lt_of_le_of_lt (norm_le x).2 (HG.out x hx).2) (by rw [List.length_map]; omega)
      rw [join_norm, List.length_map] at hj1
      have hj2 := fun wj (hb : Below wr.heap.size wr wj) => RJoin B1 cB qs wj ((hrB.below hb).more hb.size) (by omega) (fun q hq => (HG.out q hq).2) (by omega)
      have HJ1 := Lib.hid hj1
      have HJ2 := Lib.hid hj2
      have HRB := Lib.hid hrB
      clear hj1 hj2 hroom hroom2 hrA hrB HP HQ
      rw [List.length_map]
      have hok := join_ok qs []
      rw [List.nil_append] at hok
      generalize joinRes qs [] = r at *
      obtain ⟨L, f⟩ := r
      have HOK := Lib.hid hok
      clear hok
      obtain ⟨wo, rfl⟩ : ∃ wo : World, wo = wr := ⟨_, rfl⟩
      rcases hx with hx | ⟨hx1, hx2⟩
      all_goals
        go_wp2_with fail
        (with_reducible refine HJ1.out.mono ?_); rintro e w2 ⟨rfl, hb2⟩
        go_wp2_with fail
        (with_reducible refine (HJ2.out _ hb2).mono ?_); rintro e w3 ⟨rfl, hb3⟩
        have hB3 := Lib.hid (bl_next (bl_next HW.out hb2) hb3)
        have hB23 := Lib.hid (hb2.trans (hb3.mono hb2.size))
        clear hb2 hb3
        by_cases hf : f = 0
        · subst hf
          obtain ⟨hL, hgood⟩ := HOK.out rfl
          have HL := Lib.hid hL
          have HGD := Lib.hid hgood
          clear hL hgood HOK
          go_wp2_with fail
          refine (Read_any L _).mono ?_; rintro e w4 ⟨rfl, hr4, hb4, hz4⟩
          rw [HL.out] at hr4
          have hB4 := bl_next hB23.out hb4
          have hgr : wo.heap.size ≤ w3.heap.size := hB23.out.size
          have HR4 := Lib.hid hr4
          have HB4 := Lib.hid hB4
          generalize hg3 : w3.heap.size = g3 at *
          clear hr4 hb4 hB4 hg3 hz4
          go_wp2_with fail
          go_loopg [14] qs.length (fun gk s14 wx => ∃ k : Nat, k ≤ qs.length ∧ gk = qs.length - k ∧ s14 = .int .i64 k ∧ Rd wx g3 ((qs.drop k).flatMap (·.bytes.1)) 0 ∧ Below wo.heap.size wo wx)
          case atStart => exact ⟨0, by omega, rfl, rfl, HR4.out, HB4.out⟩
          case round =>
            obtain ⟨k, hk, rfl, rfl, hr, hb⟩ := hrel
            have HBX := Lib.hid hb
            have hz := hb.size
            clear hb
            by_cases hlt : k < qs.length
            · obtain ⟨b, off, rfl, hbb, hc⟩ := HRB.out (by intro h; rw [List.map_eq_nil_iff] at h; subst h; simp at hlt)
              have hc := hc k (qs[k]).cells (by simp [hlt])
              have cell : ∀ wy, Below wo.heap.size wo wy → ∀ j u, ((qs[k]).cells)[j]? = some u → wy.cell? ⟨b, off + k * 4 + j, none⟩ = some u := fun wy hy j u hu => (hy.cell hbb).trans (hc j u hu)
              have hlr := flat_le (qs.drop k) (fun q hq => (HG.out q (List.mem_of_mem_drop hq)).1)
              rw [List.length_drop, List.drop_eq_getElem_cons hlt, List.flatMap_cons] at hlr
              have hlr : ((qs[k]).bytes.1 ++ (qs.drop (k + 1)).flatMap (·.bytes.1)).length ≤ 9223372036854775807 := Nat.le_trans hlr (by omega)
              have hr : Rd wr g3 ((qs[k]).bytes.1 ++ (qs.drop (k + 1)).flatMap (·.bytes.1)) 0 := by rw [List.drop_eq_getElem_cons hlt, List.flatMap_cons] at hr; exact hr
              have hgd := HGD.out (qs[k]) (by simp)
              have hqb := HG.out (qs[k]) (by simp)
              have hfr : ∀ wy, Fr (· = g3) wr wy → Below wo.heap.size wo wy := fun wy hf => bl_fr HBX.out hf (fun i hi => by omega)
              have HFR := Lib.hid hfr
              clear hc hfr
              generalize hrest : (qs.drop (k + 1)).flatMap (·.bytes.1) = rest at *
              have HREST := Lib.hid hrest
              clear hrest HL
              have HC := Lib.hid (cell wr.drew (below_drewN HBX.out 1))
              have HCY := Lib.hid (fun wy (hf : Fr (· = g3) wr.drew wy) => cell wy (HFR.out wy ⟨hf.os, hf.tape, hf.output, hf.size, hf.block⟩))
              have HFY := Lib.hid (fun wy (hf : Fr (· = g3) wr.drew wy) => HFR.out wy ⟨hf.os, hf.tape, hf.output, hf.size, hf.block⟩)
              have hc0 : wr.cell? ⟨b, off + k * 4, none⟩ = some (.int .i64 (qs[k]).kind) := cell wr HBX.out 0 _ rfl
              have hc1 : wr.cell? ⟨b, off + k * 4 + 1, none⟩ = some (.int .i64 (qs[k]).size) := cell wr HBX.out 1 _ rfl
              have hc2 : wr.cell? ⟨b, off + k * 4 + 2, none⟩ = some (.int .u64 ((qs[k]).n : Int)) := cell wr HBX.out 2 _ rfl
              have hc3 : wr.cell? ⟨b, off + k * 4 + 3, none⟩ = some (.string (qs[k]).s) := cell wr HBX.out 3 _ rfl
              have hk0 : (0 : Int) ≤ (k : Int) := by omega
              have hk1 : (k : Int) < (qs.length : Int) := by omega
              clear cell HC
              generalize qs[k] = q at *
              obtain ⟨d, sz, n, s⟩ := q
              simp only [Part.cells] at HCY
              have hc0 : wr.cell? ⟨b, off + k * 4, none⟩ = some (.int .i64 d) := hc0
              have hc1 : wr.cell? ⟨b, off + k * 4 + 1, none⟩ = some (.int .i64 sz) := hc1
              have hc2 : wr.cell? ⟨b, off + k * 4 + 2, none⟩ = some (.int .u64 (n : Int)) := hc2
              have hc3 : wr.cell? ⟨b, off + k * 4 + 3, none⟩ = some (.string s) := hc3
              by_cases h1 : d = 1
              · subst h1
                have hgd : (numRes n sz).2 = 0 := hgd
                have hr : Rd wr g3 ((numRes n sz).1 ++ rest) 0 := hr
                have hlr : ((numRes n sz).1 ++ rest).length ≤ 9223372036854775807 := hlr
                have hin : 1 ≤ sz ∧ sz ≤ 8 ∧ n < 256 ^ sz.toNat := by
                  apply Classical.byContradiction; intro h
                  unfold numRes at hgd; rw [if_neg h] at hgd; simp at hgd
                unfold numRes at hr hlr
                rw [if_pos hin] at hr hlr
                obtain ⟨hi1, hi2, hi3⟩ := hin
                have hlb : (be sz.toNat n ++ rest).length ≤ 9223372036854775807 := hlr
                have hnum := RNum_go g3 (be sz.toNat n ++ rest) 0 sz wr.drew hr (by omega) (by omega) hlb
                rw [takeL_front _ _ _ (by rw [length_be]; omega), getN_be _ _ hi3] at hnum
                have HNUM := Lib.hid hnum
                clear hnum hr hgd hi3 hlb hlr
                go_upto_region 26 with (fail)
                go_region_held3 (fun w' => w'.cell? ⟨b, off + k * 4 + 1, none⟩ = some (.int .i64 sz) ∧ w'.cell? ⟨b, off + k * 4 + 2, none⟩ = some (.int .u64 (n : Int))) (go_keep) ((go_at_call 36; (with_reducible refine HNUM.out.mono ?_); rintro e w5 ⟨rfl, hr5, hf5⟩; have hd1 := HCY.out _ hf5 1 _ rfl; have hd2 := HCY.out _ hf5 2 _ rfl; have HR5 := Lib.hid hr5; have HF5 := Lib.hid hf5; clear hr5 hf5))
                all_goals
                  go_wp2_with fail
                  go_roundg (qs.length - (k + 1))
                  case measure => omega
                  case rel => exact ⟨k + 1, by omega, rfl, by go_num, by rw [HREST.out]; exact HR5.out, HFY.out _ HF5.out⟩
              · by_cases h2 : d = 2
                · subst h2
                  have hgd : (if 255 < s.size then (([], 3) : List UInt8 × Int) else (UInt8.ofNat s.size :: s.data.toList, 0)).2 = 0 := hgd
                  have hr : Rd wr g3 ((if 255 < s.size then (([], 3) : List UInt8 × Int) else (UInt8.ofNat s.size :: s.data.toList, 0)).1 ++ rest) 0 := hr
                  have hlr : ((if 255 < s.size then (([], 3) : List UInt8 × Int) else (UInt8.ofNat s.size :: s.data.toList, 0)).1 ++ rest).length ≤ 9223372036854775807 := hlr
                  have hin : ¬ 255 < s.size := fun h => by rw [if_pos h] at hgd; simp at hgd
                  rw [if_neg hin] at hr hlr
                  have hcn : (UInt8.ofNat s.size).toNat = s.data.toList.length := by rw [UInt8.toNat_ofNat', bs_size]; omega
                  have htx := RText_go g3 (UInt8.ofNat s.size) (s.data.toList ++ rest) 0 wr.drew hr hlr
                  rw [takeL_text _ _ _ hcn, bs_self] at htx
                  have HTX := Lib.hid htx
                  clear htx hr hgd hlr hcn hin h1
                  go_upto_region 29 with (fail)
                  go_region_held3 (fun w' => w'.cell? ⟨b, off + k * 4 + 3, none⟩ = some (.string s)) (go_keep) ((go_at_call 37; (with_reducible refine HTX.out.mono ?_); rintro e w5 ⟨rfl, hr5, hf5⟩; have hd3 := HCY.out _ hf5 3 _ rfl; have HR5 := Lib.hid hr5; have HF5 := Lib.hid hf5; clear hr5 hf5))
                  all_goals
                    go_wp2_with fail
                    go_roundg (qs.length - (k + 1))
                    case measure => omega
                    case rel => exact ⟨k + 1, by omega, rfl, by go_num, by rw [HREST.out]; exact HR5.out, HFY.out _ HF5.out⟩
                · by_cases h3 : d = 3
                  · subst h3
                    have hr : Rd wr g3 (s.data.toList ++ rest) 0 := hr
                    have hlr : (s.data.toList ++ rest).length ≤ 9223372036854775807 := hlr
                    have hrw := RRaw_any g3 (s.data.toList ++ rest) 0 (s.size : Int) wr.drew hr hlr
                    rw [takeL_front _ _ _ (by rw [bs_size]), bs_self] at hrw
                    have HRW := Lib.hid hrw
                    clear hrw hr hgd hlr h1 h2
                    go_upto_region 23 with (fail)
                    go_region_held3 (fun w' => w'.cell? ⟨b, off + k * 4 + 3, none⟩ = some (.string s)) (go_keep) ((go_at_call 38; (with_reducible refine HRW.out.mono ?_); rintro e w5 ⟨rfl, hr5, hf5⟩; have hd3 := HCY.out _ hf5 3 _ rfl; have HR5 := Lib.hid hr5; have HF5 := Lib.hid hf5; clear hr5 hf5))
                    all_goals
                      go_wp2_with fail
                      go_roundg (qs.length - (k + 1))
                      case measure => omega
                      case rel => exact ⟨k + 1, by omega, rfl, by go_num, by rw [HREST.out]; exact HR5.out, HFY.out _ HF5.out⟩
                  · exfalso
                    have : (Part.bytes ⟨d, sz, n, s⟩).2 = 0 := hgd
                    unfold Part.bytes at this
                    simp [h1, h2, h3] at this
            · obtain rfl : k = qs.length := by omega
              have hr : Rd wr g3 [] 0 := by simpa using hr
              have hB9 := Lib.hid (bl_next HW.out HBX.out)
              clear HL
              go_wp2_with fail
              (with_reducible refine (RLeft_any _ _ _ _ hr).mono ?_); rintro e w9 ⟨rfl, rfl⟩
              go_wp2_with fail
              (with_reducible refine (REnd_any _ _ _ _ hr).mono ?_); rintro e w9 ⟨rfl, rfl⟩
              go_wp2_with fail
              go_ret
              exact ⟨rfl, hB9.out⟩
        · have hf1 : (f != 0) = true := by simp [hf]
          clear hf
          go_wp2_with fail
          go_ret
          exact ⟨rfl, hB3.out⟩
end Joins
end Go.Proofs.Yteafhmcpppeelaa
