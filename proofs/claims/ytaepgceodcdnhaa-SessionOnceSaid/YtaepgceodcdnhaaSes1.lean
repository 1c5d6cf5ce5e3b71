/- Sessions: plain, the document's table. No program is named here. -/
import Derived.Test.YtaepgceodcdnhaaSes0
namespace Go.Proofs.Ytaepgceodcdnhaa.Ses
/-- the place of a session -/
def at_ : List (Nat × Cl) → Nat → Nat → Int
  | [], _, _ => -1
  | p :: l, s, k => if p.1 = s then (k : Int) else at_ l s (k + 1)
theorem at_none : ∀ (l : List (Nat × Cl)) (s k : Nat), look l s = none → at_ l s k = -1
  | [], _, _, _ => rfl
  | (s', c) :: l, s, k, h => by
    have h : (if s' = s then some c else look l s) = none := h
    show (if s' = s then (k : Int) else at_ l s (k + 1)) = -1
    by_cases e : s' = s
    · rw [if_pos e] at h; cases h
    · rw [if_neg e] at h; rw [if_neg e]; exact at_none l s (k + 1) h
theorem at_some : ∀ (l : List (Nat × Cl)) (s k : Nat) (c : Cl), look l s = some c → ∃ i : Nat, i < l.length ∧ l[i]? = some (s, c) ∧ at_ l s k = ((k + i : Nat) : Int) ∧ ∀ c', put l s c' = l.set i (s, c')
  | [], _, _, _, h => by cases h
  | (s', c0) :: l, s, k, c, h => by
    have h : (if s' = s then some c0 else look l s) = some c := h
    by_cases e : s' = s
    · rw [if_pos e] at h
      injection h with h
      subst h e
      refine ⟨0, Nat.succ_pos _, rfl, ?_, fun c' => ?_⟩
      · show (if s' = s' then (k : Int) else _) = _
        rw [if_pos rfl]; rfl
      · show (if s' = s' then (s', c') :: l else _) = _
        rw [if_pos rfl]; rfl
    · rw [if_neg e] at h
      obtain ⟨i, h1, h2, h3, h4⟩ := at_some l s (k + 1) c h
      refine ⟨i + 1, Nat.succ_lt_succ h1, h2, ?_, fun c' => ?_⟩
      · show (if s' = s then (k : Int) else at_ l s (k + 1)) = _
        rw [if_neg e, h3]
        congr 1
        omega
      · show (if s' = s then (s, c') :: l else (s', c0) :: put l s c') = _
        rw [if_neg e, h4 c']; rfl
theorem look_key {l : List (Nat × Cl)} (h : (l.map (·.1)).Nodup) : ∀ p ∈ l, look l p.1 = some p.2 := by
  induction l with
  | nil => intro p hp; cases hp
  | cons q l ih =>
    obtain ⟨s', c'⟩ := q
    rw [List.map_cons, List.nodup_cons] at h
    intro p hp
    show (if s' = p.1 then some c' else look l p.1) = some p.2
    rcases List.mem_cons.1 hp with rfl | hp
    · rw [if_pos rfl]
    · rw [if_neg (fun e => h.1 (by rw [e]; exact List.mem_map.2 ⟨p, hp, rfl⟩))]
      exact ih h.2 p hp
/-- a table's calls as a function of the session -/
def fn (l : List (Nat × Cl)) : Int → Option Cl := fun z => if 0 ≤ z then look l z.toNat else none
theorem fn_nat (l : List (Nat × Cl)) (s : Nat) : fn l (s : Int) = look l s := by
  unfold fn
  rw [if_pos (Int.natCast_nonneg _), Int.toNat_natCast]
theorem fn_put (l : List (Nat × Cl)) (s : Nat) (c : Cl) : fn (put l s c) = fun z => if z = (s : Int) then some c else fn l z := by
  funext z
  unfold fn
  by_cases h : 0 ≤ z
  · rw [if_pos h, look_put]
    by_cases e : z.toNat = s
    · rw [if_pos e, if_pos (by omega)]
    · rw [if_neg e, if_neg (by omega), if_pos h]
  · rw [if_neg h, if_neg (by omega), if_neg h]
theorem fn_lose (l : List (Nat × Cl)) : fn (lose l) = fun z => (fn l z).map lost := by
  funext z
  unfold fn
  by_cases h : 0 ≤ z
  · rw [if_pos h, if_pos h, look_lose]
  · rw [if_neg h, if_neg h]; rfl
def keys (l : List (Nat × Cl)) : List Int := l.map fun p => ((p.1 : Nat) : Int)
theorem keys_mem (l : List (Nat × Cl)) (z : Int) : z ∈ keys l ↔ (fn l z).isSome = true := by
  unfold keys fn
  rw [List.mem_map]
  by_cases h : 0 ≤ z
  · rw [if_pos h, look_mem, List.mem_map]
    exact ⟨fun ⟨p, h1, h2⟩ => ⟨p, h1, by omega⟩, fun ⟨p, h1, h2⟩ => ⟨p, h1, by omega⟩⟩
  · rw [if_neg h]
    exact ⟨fun ⟨p, _, h2⟩ => by omega, fun e => by cases e⟩
theorem keys_nodup {l : List (Nat × Cl)} (h : (l.map (·.1)).Nodup) : (keys l).Nodup := by
  unfold keys
  induction l with
  | nil => exact List.nodup_nil
  | cons p l ih =>
    rw [List.map_cons, List.nodup_cons] at h
    rw [List.map_cons, List.nodup_cons]
    refine ⟨fun hm => h.1 ?_, ih h.2⟩
    obtain ⟨q, h1, h2⟩ := List.mem_map.1 hm
    exact List.mem_map.2 ⟨q, h1, by omega⟩
/-- is the call of a key open? -/
def opn (f : Int → Option Cl) (z : Int) : Bool := match f z with | some c => c.o | none => false
def cnt (f : Int → Option Cl) (ks : List Int) : Nat := (ks.filter (opn f)).length
theorem cnt_le (f : Int → Option Cl) (ks : List Int) : cnt f ks ≤ ks.length := List.length_filter_le _ _
theorem cnt_erase (f : Int → Option Cl) (ks : List Int) (y : Int) (h : y ∈ ks) : cnt f ks = cnt f (ks.erase y) + (if opn f y = true then 1 else 0) := by
  have hp : ks.Perm (y :: ks.erase y) := List.perm_cons_erase h
  have h1 := (hp.filter (opn f)).length_eq
  unfold cnt
  rw [h1, List.filter_cons]
  split <;> simp
theorem cnt_keys {l : List (Nat × Cl)} (h : (l.map (·.1)).Nodup) {ks : List Int} (hn : ks.Nodup) (hk : ∀ z, z ∈ ks ↔ (fn l z).isSome = true) : cnt (fn l) ks = open_ l := by
  have hp : ks.Perm (keys l) := (List.perm_ext_iff_of_nodup hn (keys_nodup h)).2 fun z => (hk z).trans (keys_mem l z).symm
  have h1 := (hp.filter (opn (fn l))).length_eq
  unfold cnt
  rw [h1]
  unfold keys open_
  have key : ∀ p ∈ l, opn (fn l) ((p.1 : Nat) : Int) = p.2.o := fun p hp => by
    unfold opn
    rw [fn_nat, look_key h p hp]
  have gen : ∀ r : List (Nat × Cl), (∀ p ∈ r, opn (fn l) ((p.1 : Nat) : Int) = p.2.o) → ((r.map fun p => ((p.1 : Nat) : Int)).filter (opn (fn l))).length = (r.filter fun p => p.2.o).length := by
    intro r
    induction r with
    | nil => intro _; rfl
    | cons p r ih =>
      intro hr
      rw [List.map_cons, List.filter_cons, List.filter_cons, hr p (by simp)]
      have := ih fun q hq => hr q (by simp [hq])
      split
      · rw [List.length_cons, List.length_cons, this]
      · exact this
  exact gen l key
theorem keys_len {l : List (Nat × Cl)} (h : (l.map (·.1)).Nodup) {ks : List Int} (hn : ks.Nodup) (hk : ∀ z, z ∈ ks ↔ (fn l z).isSome = true) : ks.length = l.length := by
  have hp : ks.Perm (keys l) := (List.perm_ext_iff_of_nodup hn (keys_nodup h)).2 fun z => (hk z).trans (keys_mem l z).symm
  rw [hp.length_eq]; unfold keys; rw [List.length_map]
theorem open_le (l : List (Nat × Cl)) : open_ l ≤ l.length := List.length_filter_le _ _
theorem open_snoc (l : List (Nat × Cl)) (p : Nat × Cl) : open_ (l ++ [p]) = open_ l + (if p.2.o = true then 1 else 0) := by
  unfold open_
  rw [List.filter_append, List.length_append, List.filter_cons]
  split <;> simp
theorem put_len (l : List (Nat × Cl)) (s : Nat) (c : Cl) : (put l s c).length ≤ l.length + 1 := by
  cases h : look l s with
  | none => rw [put_new l s c h]; simp
  | some d =>
    obtain ⟨i, _, _, _, h4⟩ := at_some l s 0 d h
    rw [h4, List.length_set]; omega
theorem mem_put {l : List (Nat × Cl)} {s : Nat} {c : Cl} {p : Nat × Cl} (h : p ∈ put l s c) : p ∈ l ∨ p = (s, c) := by
  cases hk : look l s with
  | none => rw [put_new l s c hk] at h; simpa using h
  | some d =>
    obtain ⟨i, _, _, _, h4⟩ := at_some l s 0 d hk
    rw [h4] at h
    exact List.mem_or_eq_of_mem_set h
theorem Tb.Ok.put {t : Tb} (h : t.Ok) {s : Nat} {c : Cl} (hs : s < 4294967296 ∧ c.q < 4294967296 ∧ c.e < 256 ∧ c.x.length ≤ 255) (hl : (look t.cs s).isSome = true ∨ t.cs.length < 8) : Tb.Ok ⟨t.life, Ses.put t.cs s c⟩ where
  n := by
    show ((Ses.put t.cs s c).map (·.1)).Nodup
    cases hk : look t.cs s with
    | none =>
      rw [put_new t.cs s c hk, List.map_append]
      refine List.nodup_append.2 ⟨h.n, by simp, fun a ha b hb => ?_⟩
      rw [List.map_cons, List.map_nil, List.mem_singleton] at hb
      rintro rfl
      subst hb
      rw [← look_mem, hk] at ha
      cases ha
    | some d => rw [put_keys t.cs s c (by rw [hk]; rfl)]; exact h.n
  s := fun p hp => (mem_put hp).elim (h.s p) (fun e => by subst e; exact hs)
  l := by
    show (Ses.put t.cs s c).length ≤ 8
    have h8 := h.l
    rcases hl with hl | hl
    · cases hk : look t.cs s with
      | none => rw [hk] at hl; cases hl
      | some d =>
        obtain ⟨i, _, _, _, h4⟩ := at_some t.cs s 0 d hk
        rw [h4, List.length_set]; exact h8
    · have := put_len t.cs s c; omega
theorem Tb.Ok.lose {t : Tb} (h : t.Ok) (n : Nat) : Tb.Ok ⟨n, Ses.lose t.cs⟩ where
  n := by rw [show (⟨n, Ses.lose t.cs⟩ : Tb).cs = Ses.lose t.cs from rfl, lose_keys]; exact h.n
  s := fun p hp => by
    obtain ⟨q, hq, rfl⟩ := List.mem_map.1 (show p ∈ t.cs.map fun p => (p.1, lost p.2) from hp)
    have := h.s q hq
    unfold lost
    split
    · exact ⟨this.1, this.2.1, (show 13 < 256 by decide), (show 0 ≤ 255 by decide)⟩
    · exact this
  l := by show (Ses.lose t.cs).length ≤ 8; unfold Ses.lose; rw [List.length_map]; exact h.l
end Go.Proofs.Ytaepgceodcdnhaa.Ses
