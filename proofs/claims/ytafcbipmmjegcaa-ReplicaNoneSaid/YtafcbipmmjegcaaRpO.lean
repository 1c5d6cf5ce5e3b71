/- Replicas: what belongs to one of them in the families, and how that turns. -/
import Derived.Test.YtafcbipmmjegcaaRpD
namespace Go.Proofs.Ytafcbipmmjegcaa.Vm
open Go Go.RowKit
namespace X20
open Rep (Stp Wrd Cel Drv Plc RS Fm Ev put setP)
/-- a replica's transfer and drives lie in the families -/
structure Own (D : Dr) (r : RS) (gl : Glb) : Prop where
  tr : gl D.t = some (.cells (trC r.has r.calls))
  dr : ∀ k, k < 6 → ∀ d, (r.P k).dr = some d → Lies gl (D.g k) (D.m k) d
  tg : ∀ k, k < 6 → (r.P k).dr.isSome = true → D.g k ≠ D.t
  gg : ∀ j k, j < 6 → k < 6 → (r.P j).dr.isSome = true → (r.P k).dr.isSome = true → j ≠ k → D.g j ≠ D.g k
  mm : ∀ j k, j < 6 → k < 6 → (r.P j).dr.isSome = true → (r.P k).dr.isSome = true → j ≠ k → D.m j ≠ D.m k
def In_ (D : Dr) (r : RS) (b : Nat) : Prop := b = D.t ∨ ∃ k, k < 6 ∧ (r.P k).dr.isSome = true ∧ (b = D.g k ∨ b = D.m k)
/-- what turned belongs to it, or is new -/
structure Step (gl : Glb) (D : Dr) (r : RS) (gl' : Glb) (D' : Dr) (r' : RS) : Prop where
  keep : ∀ b, ¬ In_ D r b → gl b ≠ none → gl' b = gl b
  new : ∀ b, In_ D' r' b → In_ D r b ∨ gl b = none
theorem Step.refl (gl : Glb) (D : Dr) (r : RS) : Step gl D r gl D r := ⟨fun _ _ _ => rfl, fun _ h => .inl h⟩
theorem Step.trans {gl gl' gl2 : Glb} {D D' D2 : Dr} {r r' r2 : RS} (h : Step gl D r gl' D' r') (h' : Step gl' D' r' gl2 D2 r2) : Step gl D r gl2 D2 r2 := by
  refine ⟨fun b hb hn => ?_, fun b hb => ?_⟩
  · have e := h.keep b hb hn
    rw [← e] at hn
    have : ¬ In_ D' r' b := fun hi => by
      rcases h.new b hi with h1 | h1
      · exact hb h1
      · exact hn (e.trans h1)
    exact (h'.keep b this hn).trans e
  · rcases h'.new b hb with h1 | h1
    · exact h.new b h1
    · by_cases hi : In_ D r b
      · exact .inl hi
      · refine .inr (Classical.byContradiction fun hn => ?_)
        have := h.keep b hi hn
        exact hn (this ▸ h1)
/-- of another one nothing turned -/
theorem Step.other {gl gl' : Glb} {D D' D2 : Dr} {r r' r2 : RS} (h : Step gl D r gl' D' r') (ho : Own D2 r2 gl) (ha : ∀ b, In_ D r b → ¬ In_ D2 r2 b) : Own D2 r2 gl' ∧ ∀ b, In_ D' r' b → ¬ In_ D2 r2 b := by
  have hk : ∀ b, In_ D2 r2 b → gl b ≠ none → gl' b = gl b := fun b hb hn => h.keep b (fun hi => ha b hi hb) hn
  have hin : ∀ b, In_ D2 r2 b → gl b ≠ none := fun b hb => by
    rcases hb with rfl | ⟨k, hk, hs, hb⟩
    · rw [ho.tr]; simp
    · obtain ⟨d, hd⟩ := Option.isSome_iff_exists.1 hs
      obtain ⟨h1, es, ck, h2⟩ := ho.dr k hk d hd
      rcases hb with rfl | rfl
      · rw [h1]; simp
      · rw [h2]; simp
  refine ⟨⟨?_, fun k hk6 d hd => ?_, ho.tg, ho.gg, ho.mm⟩, fun b hb hb2 => ?_⟩
  · rw [hk _ (.inl rfl) (hin _ (.inl rfl))]; exact ho.tr
  · have hs : (r2.P k).dr.isSome = true := by rw [hd]; rfl
    obtain ⟨h1, es, ck, h2⟩ := ho.dr k hk6 d hd
    have i1 : In_ D2 r2 (D2.g k) := .inr ⟨k, hk6, hs, .inl rfl⟩
    have i2 : In_ D2 r2 (D2.m k) := .inr ⟨k, hk6, hs, .inr rfl⟩
    exact ⟨(hk _ i1 (hin _ i1)).trans h1, es, ck, (hk _ i2 (hin _ i2)).trans h2⟩
  · rcases h.new b hb with h1 | h1
    · exact ha b h1 hb2
    · exact hin b hb2 h1
theorem lies_mt {gl : Glb} {b g m : Nat} {d : Drv} {cs : List T} (h : Lies gl g m d) (hb : gl b = some (.cells cs)) : m ≠ b := fun e => by
  obtain ⟨-, es, ck, h2⟩ := h
  rw [e, hb] at h2
  cases h2
theorem lies_gm {gl : Glb} {g m g' m' : Nat} {d d' : Drv} (h : Lies gl g m d) (h' : Lies gl g' m' d') : g ≠ m' := fun e => by
  obtain ⟨-, es, ck, h2⟩ := h'
  rw [← e, h.1] at h2
  cases h2
theorem lies_set (gl : Glb) {g m : Nat} (d : Drv) (es : Array MapEntry) (ck : Nat) (h : g ≠ m) : Lies (setDr gl g m d es ck) g m d := by
  refine ⟨setO_at _ _ _, es, ck, ?_⟩
  unfold setDr
  rw [setO_ne _ _ h.symm, setO_at]
theorem setDr_ne (gl : Glb) {g m b : Nat} (d : Drv) (es : Array MapEntry) (ck : Nat) (h1 : b ≠ g) (h2 : b ≠ m) : setDr gl g m d es ck b = gl b := by
  unfold setDr
  rw [setO_ne _ _ h1, setO_ne _ _ h2]
theorem P_at (r : RS) (k : Nat) (p : Plc) : (setP r k p).P k = p := Rep.put_at _ _ _
theorem P_ne (r : RS) (k : Nat) (p : Plc) {j : Nat} (h : j ≠ k) : (setP r k p).P j = r.P j := Rep.put_ne _ _ _ h
section
variable {D : Dr} {r : RS} {gl : Glb}
/-- a place's cell or age turns -/
theorem Own.same (h : Own D r gl) (k : Nat) (p : Plc) (hp : p.dr = (r.P k).dr) : Own D (setP r k p) gl ∧ Step gl D r gl D (setP r k p) := by
  have e : ∀ j, ((setP r k p).P j).dr = (r.P j).dr := fun j => by
    by_cases hj : j = k
    · subst hj; rw [P_at, hp]
    · rw [P_ne _ _ _ hj]
  refine ⟨⟨h.tr, fun j hj d hd => h.dr j hj d (by rw [← e]; exact hd), fun j hj hs => h.tg j hj (by rw [← e]; exact hs), fun i j hi hj h1 h2 => h.gg i j hi hj (by rw [← e]; exact h1) (by rw [← e]; exact h2), fun i j hi hj h1 h2 => h.mm i j hi hj (by rw [← e]; exact h1) (by rw [← e]; exact h2)⟩, fun _ _ _ => rfl, fun b hb => .inl ?_⟩
  rcases hb with rfl | ⟨j, hj, hs, hb⟩
  · exact .inl rfl
  · exact .inr ⟨j, hj, by rw [← e]; exact hs, hb⟩
/-- a drive is let go -/
theorem Own.drop (h : Own D r gl) (k : Nat) (p : Plc) (hp : p.dr = none) : Own D (setP r k p) gl ∧ Step gl D r gl D (setP r k p) := by
  have e : ∀ j d, ((setP r k p).P j).dr = some d → (r.P j).dr = some d := fun j d hd => by
    by_cases hj : j = k
    · subst hj; rw [P_at, hp] at hd; cases hd
    · rw [P_ne _ _ _ hj] at hd; exact hd
  have e2 : ∀ j, ((setP r k p).P j).dr.isSome = true → (r.P j).dr.isSome = true := fun j hj => by
    obtain ⟨d, hd⟩ := Option.isSome_iff_exists.1 hj
    rw [e j d hd]; rfl
  refine ⟨⟨h.tr, fun j hj d hd => h.dr j hj d (e j d hd), fun j hj hs => h.tg j hj (e2 j hs), fun i j hi hj h1 h2 => h.gg i j hi hj (e2 i h1) (e2 j h2), fun i j hi hj h1 h2 => h.mm i j hi hj (e2 i h1) (e2 j h2)⟩, fun _ _ _ => rfl, fun b hb => .inl ?_⟩
  rcases hb with rfl | ⟨j, hj, hs, hb⟩
  · exact .inl rfl
  · exact .inr ⟨j, hj, e2 j hs, hb⟩
/-- a drive turns: its map's block may be a new one -/
theorem Own.turn (h : Own D r gl) {k : Nat} (hk : k < 6) {d : Drv} (hd : (r.P k).dr = some d) (p : Plc) (d' : Drv) (hp : p.dr = some d') (m : Nat) (es : Array MapEntry) (ck : Nat) (hm : m = D.m k ∨ gl m = none) :
    Own { D with m := put D.m k m } (setP r k p) (setDr gl (D.g k) m d' es ck) ∧ Step gl D r (setDr gl (D.g k) m d' es ck) { D with m := put D.m k m } (setP r k p) := by
  have hs : (r.P k).dr.isSome = true := by rw [hd]; rfl
  have hl := h.dr k hk d hd
  have hgm : D.g k ≠ m := by
    rcases hm with rfl | hm
    · exact hl.ne
    · intro e; rw [← e, hl.1] at hm; cases hm
  have e : ∀ j, j ≠ k → ((setP r k p).P j).dr = (r.P j).dr := fun j hj => by rw [P_ne _ _ _ hj]
  have ek : ((setP r k p).P k).dr = some d' := by rw [P_at, hp]
  have es_ : ∀ j, ((setP r k p).P j).dr.isSome = true → (r.P j).dr.isSome = true := fun j hj => by
    by_cases hjk : j = k
    · subst hjk; exact hs
    · rw [e j hjk] at hj; exact hj
  have some_at : ∀ b, In_ D r b → gl b ≠ none := fun b hb => by
    rcases hb with rfl | ⟨j, hj, hs, hb⟩
    · rw [h.tr]; simp
    · obtain ⟨x, hx⟩ := Option.isSome_iff_exists.1 hs
      obtain ⟨h1, es, ck, h2⟩ := h.dr j hj x hx
      rcases hb with rfl | rfl
      · rw [h1]; simp
      · rw [h2]; simp
  have hmne : ∀ b, In_ D r b → b ≠ D.m k → b ≠ m := fun b hb hb2 e => by
    rcases hm with hm | hm
    · exact hb2 (e.trans hm)
    · exact some_at b hb (e ▸ hm)
  have gne : ∀ j, j < 6 → j ≠ k → (r.P j).dr.isSome = true → D.g j ≠ m := fun j hj hjk hjs => by
    obtain ⟨x, hx⟩ := Option.isSome_iff_exists.1 hjs
    exact hmne _ (.inr ⟨j, hj, hjs, .inl rfl⟩) (lies_gm (h.dr j hj x hx) hl)
  have mne : ∀ j, j < 6 → j ≠ k → (r.P j).dr.isSome = true → D.m j ≠ m := fun j hj hjk hjs => hmne _ (.inr ⟨j, hj, hjs, .inr rfl⟩) (h.mm j k hj hk hjs hs hjk)
  have tne : D.t ≠ m := hmne _ (.inl rfl) (lies_mt hl h.tr).symm
  refine ⟨⟨?_, fun j hj x hx => ?_, fun j hj hjs => h.tg j hj (es_ j hjs), fun i j hi hj h1 h2 => h.gg i j hi hj (es_ i h1) (es_ j h2), fun i j hi hj h1 h2 hij => ?_⟩, fun b hb _ => ?_, fun b hb => ?_⟩
  · rw [setDr_ne _ _ _ _ (h.tg k hk hs).symm tne]; exact h.tr
  · by_cases hjk : j = k
    · subst hjk
      rw [ek] at hx
      injection hx with hx
      subst hx
      have : put D.m j m j = m := Rep.put_at _ _ _
      rw [show ({ D with m := put D.m j m } : Dr).m j = m from this]
      exact lies_set gl d' es ck hgm
    · rw [e j hjk] at hx
      have hjs : (r.P j).dr.isSome = true := by rw [hx]; rfl
      obtain ⟨h1, es', ck', h2⟩ := h.dr j hj x hx
      rw [show ({ D with m := put D.m k m } : Dr).m j = D.m j from Rep.put_ne _ _ _ hjk]
      refine ⟨?_, es', ck', ?_⟩
      · rw [setDr_ne _ _ _ _ (h.gg j k hj hk hjs hs hjk) (gne j hj hjk hjs)]; exact h1
      · rw [setDr_ne _ _ _ _ (lies_gm hl (h.dr j hj x hx)).symm (mne j hj hjk hjs)]; exact h2
  · have i1 := es_ i h1
    have i2 := es_ j h2
    by_cases hik : i = k
    · subst hik
      rw [show ({ D with m := put D.m i m } : Dr).m i = m from Rep.put_at _ _ _, show ({ D with m := put D.m i m } : Dr).m j = D.m j from Rep.put_ne _ _ _ (Ne.symm hij)]
      exact (mne j hj (Ne.symm hij) i2).symm
    · rw [show ({ D with m := put D.m k m } : Dr).m i = D.m i from Rep.put_ne _ _ _ hik]
      by_cases hjk : j = k
      · subst hjk
        rw [show ({ D with m := put D.m j m } : Dr).m j = m from Rep.put_at _ _ _]
        exact mne i hi hik i1
      · rw [show ({ D with m := put D.m k m } : Dr).m j = D.m j from Rep.put_ne _ _ _ hjk]
        exact h.mm i j hi hj i1 i2 hij
  · refine setDr_ne _ _ _ _ (fun e => hb (.inr ⟨k, hk, hs, .inl e⟩)) (fun e => ?_)
    rcases hm with hm | hm
    · exact hb (.inr ⟨k, hk, hs, .inr (e.trans hm)⟩)
    · rename_i hn; exact hn (e ▸ hm)
  · rcases hb with rfl | ⟨j, hj, hjs, hb⟩
    · exact .inl (.inl rfl)
    · have hjo := es_ j hjs
      rcases hb with rfl | hb
      · exact .inl (.inr ⟨j, hj, hjo, .inl rfl⟩)
      · by_cases hjk : j = k
        · subst hjk
          rw [show ({ D with m := put D.m j m } : Dr).m j = m from Rep.put_at _ _ _] at hb
          rcases hm with hm | hm
          · exact .inl (.inr ⟨j, hj, hjo, .inr (hb.trans hm)⟩)
          · exact .inr (hb ▸ hm)
        · rw [show ({ D with m := put D.m k m } : Dr).m j = D.m j from Rep.put_ne _ _ _ hjk] at hb
          exact .inl (.inr ⟨j, hj, hjo, .inr hb⟩)
/-- a drive begins -/
theorem Own.new (h : Own D r gl) {k : Nat} (hk : k < 6) (p : Plc) (d : Drv) (hp : p.dr = some d) (g m : Nat) (es : Array MapEntry) (ck : Nat) (hg : gl g = none) (hm : gl m = none) (hgm : g ≠ m) :
    Own { D with g := put D.g k g, m := put D.m k m } (setP r k p) (setDr gl g m d es ck) ∧ Step gl D r (setDr gl g m d es ck) { D with g := put D.g k g, m := put D.m k m } (setP r k p) := by
  have e : ∀ j, j ≠ k → ((setP r k p).P j).dr = (r.P j).dr := fun j hj => by rw [P_ne _ _ _ hj]
  have ek : ((setP r k p).P k).dr = some d := by rw [P_at, hp]
  have some_at : ∀ b, In_ D r b → gl b ≠ none := fun b hb => by
    rcases hb with rfl | ⟨j, hj, hs, hb⟩
    · rw [h.tr]; simp
    · obtain ⟨x, hx⟩ := Option.isSome_iff_exists.1 hs
      obtain ⟨h1, es, ck, h2⟩ := h.dr j hj x hx
      rcases hb with rfl | rfl
      · rw [h1]; simp
      · rw [h2]; simp
  have ng : ∀ b, In_ D r b → b ≠ g := fun b hb e => some_at b hb (e ▸ hg)
  have nm : ∀ b, In_ D r b → b ≠ m := fun b hb e => some_at b hb (e ▸ hm)
  have gk : ({ D with g := put D.g k g, m := put D.m k m } : Dr).g k = g := Rep.put_at _ _ _
  have mk : ({ D with g := put D.g k g, m := put D.m k m } : Dr).m k = m := Rep.put_at _ _ _
  have gj : ∀ j, j ≠ k → ({ D with g := put D.g k g, m := put D.m k m } : Dr).g j = D.g j := fun j hj => Rep.put_ne _ _ _ hj
  have mj : ∀ j, j ≠ k → ({ D with g := put D.g k g, m := put D.m k m } : Dr).m j = D.m j := fun j hj => Rep.put_ne _ _ _ hj
  have ig : ∀ j, j < 6 → (r.P j).dr.isSome = true → In_ D r (D.g j) := fun j hj hs => .inr ⟨j, hj, hs, .inl rfl⟩
  have im : ∀ j, j < 6 → (r.P j).dr.isSome = true → In_ D r (D.m j) := fun j hj hs => .inr ⟨j, hj, hs, .inr rfl⟩
  have it : In_ D r D.t := .inl rfl
  refine ⟨⟨?_, fun j hj x hx => ?_, fun j hj hjs => ?_, fun i j hi hj h1 h2 hij => ?_, fun i j hi hj h1 h2 hij => ?_⟩, fun b hb hn => ?_, fun b hb => ?_⟩
  · rw [setDr_ne _ _ _ _ (ng _ it) (nm _ it)]; exact h.tr
  · by_cases hjk : j = k
    · subst hjk
      rw [ek] at hx
      injection hx with hx
      subst hx
      rw [gk, mk]
      exact lies_set gl d es ck hgm
    · rw [e j hjk] at hx
      have hjs : (r.P j).dr.isSome = true := by rw [hx]; rfl
      obtain ⟨h1, es', ck', h2⟩ := h.dr j hj x hx
      rw [gj j hjk, mj j hjk]
      refine ⟨?_, es', ck', ?_⟩
      · rw [setDr_ne _ _ _ _ (ng _ (ig j hj hjs)) (nm _ (ig j hj hjs))]; exact h1
      · rw [setDr_ne _ _ _ _ (ng _ (im j hj hjs)) (nm _ (im j hj hjs))]; exact h2
  · by_cases hjk : j = k
    · subst hjk; rw [gk]; exact (ng _ it).symm
    · rw [e j hjk] at hjs; rw [gj j hjk]; exact h.tg j hj hjs
  · by_cases hik : i = k
    · subst hik
      rw [e j (Ne.symm hij)] at h2
      rw [gk, gj j (Ne.symm hij)]; exact (ng _ (ig j hj h2)).symm
    · rw [e i hik] at h1
      by_cases hjk : j = k
      · subst hjk; rw [gk, gj i hij]; exact ng _ (ig i hi h1)
      · rw [e j hjk] at h2; rw [gj i hik, gj j hjk]; exact h.gg i j hi hj h1 h2 hij
  · by_cases hik : i = k
    · subst hik
      rw [e j (Ne.symm hij)] at h2
      rw [mk, mj j (Ne.symm hij)]; exact (nm _ (im j hj h2)).symm
    · rw [e i hik] at h1
      by_cases hjk : j = k
      · subst hjk; rw [mk, mj i hij]; exact nm _ (im i hi h1)
      · rw [e j hjk] at h2; rw [mj i hik, mj j hjk]; exact h.mm i j hi hj h1 h2 hij
  · exact setDr_ne _ _ _ _ (fun e => hn (e ▸ hg)) (fun e => hn (e ▸ hm))
  · rcases hb with rfl | ⟨j, hj, hjs, hb⟩
    · exact .inl it
    · by_cases hjk : j = k
      · subst hjk
        rw [gk, mk] at hb
        rcases hb with rfl | rfl
        · exact .inr hg
        · exact .inr hm
      · rw [e j hjk] at hjs
        rw [gj j hjk, mj j hjk] at hb
        exact .inl (.inr ⟨j, hj, hjs, hb⟩)
/-- the transfer turns -/
theorem Own.trans_ (h : Own D r gl) (h' : Nat → Bool) (c' : Nat) : Own D { r with has := h', calls := c' } (setO gl D.t (.cells (trC h' c'))) ∧ Step gl D r (setO gl D.t (.cells (trC h' c'))) D { r with has := h', calls := c' } := by
  refine ⟨⟨setO_at _ _ _, fun j hj x hx => ?_, h.tg, h.gg, h.mm⟩, fun b hb _ => setO_ne _ _ fun e => hb (.inl e), fun b hb => .inl hb⟩
  have hjs : (r.P j).dr.isSome = true := by
    have : (r.P j).dr = some x := hx
    rw [this]; rfl
  have hl := h.dr j hj x hx
  obtain ⟨h1, es', ck', h2⟩ := hl
  refine ⟨?_, es', ck', ?_⟩
  · rw [setO_ne _ _ (h.tg j hj hjs)]; exact h1
  · rw [setO_ne _ _ (lies_mt (h.dr j hj x hx) h.tr)]; exact h2
theorem Own.view (h : Own D r gl) (v : View.VS) : Own D { r with v := v } gl ∧ Step gl D r gl D { r with v := v } := ⟨⟨h.tr, h.dr, h.tg, h.gg, h.mm⟩, fun _ _ _ => rfl, fun _ hb => .inl hb⟩
end
end X20
end Go.Proofs.Ytafcbipmmjegcaa.Vm
