import Derived.Test.YtadfdknlogceoaaKxa
import Derived.Test.YtadfdknlogceoaaKr
import Derived.Test.YtadfdknlogceoaaKo
import Derived.Test.YtadfdknlogceoaaKt
import Derived.Test.YtadfdknlogceoaaKy
import Derived.Test.YtadfdknlogceoaaKw
import Derived.Test.YtadfdknlogceoaaKv
set_option linter.all false
namespace Go.Proofs.G
/-- there is a way, of none or more edges -/
def Re (g : Gr) (a b : Nat) : Prop := a ∈ g.N ∧ ∃ d, Way g 0 a b d
theorem Re.refl {g : Gr} (w : g.WF) {a : Nat} (h : a ∈ g.N) : Re g a a := ⟨h, 0, .nil fun e => w.pos (e ▸ h)⟩
theorem Re.right {g : Gr} (w : g.WF) {a b : Nat} (h : Re g a b) : b ∈ g.N := let ⟨ha, _, wy⟩ := h; wy.inN w ha
theorem Re.trans {g : Gr} {a b c : Nat} (h : Re g a b) (k : Re g b c) : Re g a c := let ⟨ha, _, w1⟩ := h; let ⟨_, _, w2⟩ := k; ⟨ha, _, w1.trans w2⟩
theorem Re.step {g : Gr} (w : g.WF) {a b : Nat} (h : a ∈ g.N) (hb : b ∈ g.to a) : Re g a b := ⟨h, 1, .snoc (.nil fun e => w.pos (e ▸ h)) hb fun e => w.pos (e ▸ w.sub _ _ hb)⟩
theorem Re.trn {g : Gr} (w : g.WF) {a b : Nat} : Re (trn g) a b ↔ Re g b a := by
  constructor
  · intro h
    have hb := h.right (tRn w)
    obtain ⟨ha, d, wy⟩ := h
    rw [trn_N w] at ha hb
    exact ⟨hb, d, (way_trn w hb ha).1 wy⟩
  · intro h
    have hb := h.right w
    obtain ⟨ha, d, wy⟩ := h
    exact ⟨by rw [trn_N w]; exact hb, d, (way_trn w ha hb).2 wy⟩
/-- of one strong component -/
def SC (g : Gr) (a b : Nat) : Prop := Re g a b ∧ Re g b a
theorem SC.symm {g : Gr} {a b : Nat} (h : SC g a b) : SC g b a := ⟨h.2, h.1⟩
theorem SC.trans {g : Gr} {a b c : Nat} (h : SC g a b) (k : SC g b c) : SC g a c := ⟨h.1.trans k.1, k.2.trans h.2⟩
theorem SC.refl {g : Gr} (w : g.WF) {a : Nat} (h : a ∈ g.N) : SC g a a := ⟨.refl w h, .refl w h⟩
theorem SC.trn {g : Gr} (w : g.WF) {a b : Nat} : SC (trn g) a b ↔ SC g a b := ⟨fun h => ⟨(Re.trn w).1 h.2, (Re.trn w).1 h.1⟩, fun h => ⟨(Re.trn w).2 h.2, (Re.trn w).2 h.1⟩⟩
/-- in the order of leaving: one that stands behind and is named reaches all that stands between -/
def Nest (g : Gr) (l : List Nat) : Prop := ∀ (i j y z : Nat), i < j → l[i]? = some y → l[j]? = some z → z ∈ g.to y → ∀ (k v : Nat), i ≤ k → k < j → l[k]? = some v → Re g z v
theorem Nest.nil (g : Gr) : Nest g [] := fun i j y z _ h => by cases h
theorem Nest.app {g : Gr} {A B : List Nat} (a : Nest g A) (b : Nest g B) (h : ∀ y ∈ A, ∀ z ∈ B, z ∉ g.to y) : Nest g (A ++ B) := by
  intro i j y z hij hy hz hzy k v hik hkj hv
  by_cases hj : j < A.length
  · rw [List.getElem?_append_left (by omega)] at hy hz hv
    exact a i j y z hij hy hz hzy k v hik hkj hv
  · rw [List.getElem?_append_right (by omega)] at hz
    by_cases hi : i < A.length
    · rw [List.getElem?_append_left hi] at hy
      exact absurd hzy (h y (List.mem_of_getElem? hy) z (List.mem_of_getElem? hz))
    · rw [List.getElem?_append_right (by omega)] at hy hv
      exact b (i - A.length) (j - A.length) y z (by omega) hy hz hzy (k - A.length) v (by omega) (by omega) hv
theorem Nest.snoc {g : Gr} {A : List Nat} {n : Nat} (a : Nest g A) (h : ∀ v ∈ A, Re g n v) : Nest g (A ++ [n]) := by
  intro i j y z hij hy hz hzy k v hik hkj hv
  by_cases hj : j < A.length
  · rw [List.getElem?_append_left (by omega)] at hy hz hv
    exact a i j y z hij hy hz hzy k v hik hkj hv
  · rw [List.getElem?_append_right (by omega)] at hz
    have hj0 : j - A.length = 0 := by
      rcases Nat.eq_zero_or_pos (j - A.length) with h0 | h0
      · exact h0
      · rw [List.getElem?_eq_none (by simp; omega)] at hz; cases hz
    rw [hj0] at hz
    simp at hz; subst hz
    rw [List.getElem?_append_left (by omega)] at hv
    exact h v (List.mem_of_getElem? hv)
theorem deep_nest {g : Gr} (w : g.WF) : ∀ (k : Nat) (fr e : List Nat), freeN g e ≤ k → (∀ x ∈ fr, x ∈ g.N) → e.Nodup → (∀ x ∈ e, x ∈ g.N) → Nest g (deepF g (k + 1) fr e).2 := by
  intro k
  induction k using Nat.strongRecOn with
  | _ k ih =>
    intro fr e hk hfr hen hes
    rw [deepF_succ]
    have key : ∀ (l : List Nat) (s : List Nat × List Nat), (∀ x ∈ l, x ∈ g.N) → DeepOk g e s → Nest g s.2 → (∀ y ∈ s.2, ∀ z ∈ g.to y, z ∈ s.1) → Nest g (l.foldl (deepS g k) s).2 := by
      intro l
      induction l with
      | nil => intro s _ _ h _; exact h
      | cons n l ihl =>
        intro s hN ok hn hc
        have hnN : n ∈ g.N := hN n (by simp)
        rw [List.foldl_cons]
        have hN' : ∀ x ∈ l, x ∈ g.N := fun x hx => hN x (List.mem_cons_of_mem _ hx)
        by_cases hin : n ∈ s.1
        · have e1 : deepS g k s n = s := by unfold deepS; rw [if_pos hin]
          rw [e1]; exact ihl s hN' ok hn hc
        · have e1 : deepS g k s n = ((deepF g k (g.to n) (s.1 ++ [n])).1, s.2 ++ (deepF g k (g.to n) (s.1 ++ [n])).2 ++ [n]) := by unfold deepS; rw [if_neg hin]
          have hnn : (s.1 ++ [n]).Nodup := List.nodup_append.2 ⟨ok.nodup, by simp, fun a ha b hb => by simp at hb; subst hb; intro e; subst e; exact hin ha⟩
          have hss : ∀ x ∈ s.1 ++ [n], x ∈ g.N := fun x hx => by
            rcases List.mem_append.1 hx with hx | hx
            · exact ok.sub x hx
            · simp at hx; subst hx; exact hnN
          have hlt := freeN_lt hnN hin
          obtain ⟨mm, hm1, hm2⟩ := ok.pre
          have hle : freeN g s.1 ≤ freeN g e := freeN_le fun y hy => by rw [hm1]; exact List.mem_append_left _ hy
          obtain ⟨k', rfl⟩ : ∃ k', k = k' + 1 := ⟨k - 1, by omega⟩
          have hto : ∀ x ∈ g.to n, x ∈ g.N := fun y hy => w.sub _ _ hy
          have r1 := deepF_cl w k' (g.to n) (s.1 ++ [n]) (by omega) hto hnn hss
          have r2 := ih k' (Nat.lt_succ_self _) (g.to n) (s.1 ++ [n]) (by omega) hto hnn hss
          have ok3 := deepF_ok w (k' + 1) (g.to n) (s.1 ++ [n]) hto hnn hss
          rw [e1]
          obtain ⟨m3, h3, p3⟩ := ok3.pre
          have ho : ∀ x ∈ (deepF g (k' + 1) (g.to n) (s.1 ++ [n])).2, x ∈ (deepF g (k' + 1) (g.to n) (s.1 ++ [n])).1 ∧ x ∉ s.1 ++ [n] := fun x hx => by
            have hx3 := p3.mem_iff.1 hx
            refine ⟨by rw [h3]; exact List.mem_append_right _ hx3, fun hh => ?_⟩
            have := ok3.nodup
            rw [h3] at this
            exact (List.nodup_append.1 this).2.2 x hh x hx3 rfl
          generalize deepF g (k' + 1) (g.to n) (s.1 ++ [n]) = r at *
          refine ihl (r.1, s.2 ++ r.2 ++ [n]) hN' ?_ ?_ ?_
          · refine ⟨ok3.nodup, ok3.sub, mm ++ ([n] ++ m3), ?_, ?_⟩
            · rw [h3, hm1]; simp
            · simp only
              rw [List.append_assoc]
              refine hm2.append ?_
              exact (List.perm_append_comm).trans ((List.Perm.refl [n]).append p3)
          · simp only
            rw [List.append_assoc]
            refine hn.app (r2.snoc fun v hv => ?_) fun y hy z hz hzy => ?_
            · obtain ⟨hv1, hv2⟩ := ho v hv
              obtain ⟨_, a, ha, d, wy⟩ := r1.2 v hv1 hv2
              exact ⟨hnN, d + 1, wy.cons (fun e0 => w.pos (e0 ▸ hnN)) ha⟩
            · have hz1 := hc y hy z hzy
              rcases List.mem_append.1 hz with hz | hz
              · exact (ho z hz).2 (List.mem_append_left _ hz1)
              · simp at hz; subst hz; exact hin hz1
          · intro y hy z hz
            simp only at hy ⊢
            rcases List.mem_append.1 hy with hy | hy
            · rcases List.mem_append.1 hy with hy | hy
              · have := hc y hy z hz
                rw [h3]; exact List.mem_append_left _ (List.mem_append_left _ this)
              · obtain ⟨hv1, hv2⟩ := ho y hy
                exact (r1.2 y hv1 hv2).1 z hz
            · simp at hy; subst hy
              exact r1.1 z hz
    exact key fr (e, []) hfr (.refl hen hes) (Nest.nil g) (fun y hy => by simp at hy)
/-- one list in order is another one with the same members -/
theorem sorted_ext {α : Type} {R : α → α → Prop} (ha : ∀ a b, R a b → ¬ R b a) : ∀ (l m : List α), l.Pairwise R → m.Pairwise R → (∀ x, x ∈ l ↔ x ∈ m) → l = m
  | [], [], _, _, _ => rfl
  | [], b :: m, _, _, h => absurd ((h b).2 (by simp)) (by simp)
  | a :: l, [], _, _, h => absurd ((h a).1 (by simp)) (by simp)
  | a :: l, b :: m, hl, hm, h => by
    rw [List.pairwise_cons] at hl hm
    have hab : a = b := Classical.byContradiction fun hne => by
      have h1 : a ∈ m := by
        rcases List.mem_cons.1 ((h a).1 (by simp)) with e | e
        · exact absurd e hne
        · exact e
      have h2 : b ∈ l := by
        rcases List.mem_cons.1 ((h b).2 (by simp)) with e | e
        · exact absurd e.symm hne
        · exact e
      exact ha _ _ (hl.1 b h2) (hm.1 a h1)
    subst hab
    have : l = m := sorted_ext ha l m hl.2 hm.2 fun x => by
      have hx := h x
      simp only [List.mem_cons] at hx
      constructor
      · intro hxl
        rcases hx.1 (.inr hxl) with e | e
        · subst e; exact absurd (hl.1 _ hxl) (ha _ _ (hl.1 _ hxl))
        · exact e
      · intro hxm
        rcases hx.2 (.inr hxm) with e | e
        · subst e; exact absurd (hm.1 _ hxm) (ha _ _ (hm.1 _ hxm))
        · exact e
    rw [this]
end Go.Proofs.G
namespace Go.Proofs.G
/-- a way crosses over -/
theorem cross {g : Gr} (w : g.WF) {B : List Nat} (hB : ∀ x ∈ g.N, x ∈ B) {c y : Nat} (hy : y ∈ g.N) : ∀ {q d : Nat}, Way g 0 y q d → (∃ i, i ≤ c ∧ B[i]? = some y) → (∃ j, c < j ∧ B[j]? = some q) → (¬ ∃ j, j ≤ c ∧ B[j]? = some q) →
    ∃ p p', Re g y p ∧ p' ∈ g.to p ∧ (∃ i, i ≤ c ∧ B[i]? = some p) ∧ ∃ j, c < j ∧ B[j]? = some p' := by
  intro q d wy
  induction wy with
  | nil _ => intro h1 _ h3; exact absurd h1 h3
  | @snoc b q d w1 h1 h2 ih =>
    intro hi hj hn
    have hbN : b ∈ g.N := w1.inN w hy
    obtain ⟨i, hi'⟩ := List.getElem?_of_mem (hB b hbN)
    by_cases hlo : ∃ i, i ≤ c ∧ B[i]? = some b
    · exact ⟨b, q, ⟨hy, d, w1⟩, h1, hlo, hj⟩
    · refine ih hi ⟨i, ?_, hi'⟩ hlo
      rcases Nat.lt_or_ge c i with h | h
      · exact h
      · exact absurd ⟨i, h, hi'⟩ hlo
/-- one of the component stands behind -/
theorem behind_one {g : Gr} (w : g.WF) {B : List Nat} (hB : ∀ x ∈ g.N, x ∈ B) (hnd : B.Nodup) (hn : Nest g B) {x n a : Nat} (ha : B[a]? = some n) (hxn : Re g x n) (hnx : ¬ SC g n x) :
    ∀ (m c y : Nat), B.length - c ≤ m → c < a → B[c]? = some y → SC g y x → ∃ j z, a < j ∧ B[j]? = some z ∧ SC g z x := by
  have uniq : ∀ {i j q}, B[i]? = some q → B[j]? = some q → i = j := fun {i j q} h1 h2 => by
    have hi := (List.getElem?_eq_some_iff.1 h1).1
    exact (List.getElem?_inj hi hnd).1 (h1.trans h2.symm)
  intro m
  induction m with
  | zero => intro c y hc hca hcy _; have := (List.getElem?_eq_some_iff.1 hcy).1; omega
  | succ m ih =>
    intro c y hc hca hcy hs
    obtain ⟨hyN, d, wy⟩ := hs.1.trans hxn
    obtain ⟨p, p', h1, h2, ⟨i, hi, hip⟩, j, hj, hjp⟩ := cross w hB (c := c) hyN wy ⟨c, Nat.le_refl _, hcy⟩ ⟨a, hca, ha⟩ fun ⟨j, h1, h2⟩ => by have := uniq h2 ha; omega
    have r := hn i j p p' (by omega) hip hjp h2 c y hi hj hcy
    have hpN := h1.right w
    have hs' : SC g p' x := ⟨r.trans hs.1, hs.2.trans (h1.trans (.step w hpN h2))⟩
    rcases Nat.lt_trichotomy j a with h | h | h
    · exact ih j p' (by omega) h hjp hs'
    · subst h
      rw [ha] at hjp; cases hjp
      exact absurd hs' hnx
    · exact ⟨j, p', h, hjp, hs'⟩
/-- the parts so far: of those of L -/
structure PI (g : Gr) (L : List Nat) (s : List Nat × List (List Nat)) : Prop where
  mem : ∀ x, x ∈ s.1 ↔ ∃ y ∈ L, SC g x y
  nodup : s.1.Nodup
  each : ∀ p ∈ s.2, p.Pairwise (· < ·) ∧ ∃ n ∈ g.N, ∀ x, x ∈ p ↔ SC g x n
  cov : ∀ x ∈ s.1, ∃ p ∈ s.2, x ∈ p
  sub : ∀ p ∈ s.2, ∀ x ∈ p, x ∈ s.1
  dis : s.2.Pairwise fun a b => ∀ x ∈ a, x ∉ b
theorem behind_perm {g : Gr} (w : g.WF) : (behindF g).Nodup ∧ (∀ x, x ∈ behindF g ↔ x ∈ g.N) ∧ Nest g (behindF g) := by
  have d := deepF_ok w (g.N.length + 1) g.N [] (fun x hx => hx) (by simp) (by simp)
  have cl := deepF_cl w g.N.length g.N [] (freeN_le_len _ _) (fun x hx => hx) (by simp) (by simp)
  have ne := deep_nest w g.N.length g.N [] (freeN_le_len _ _) (fun x hx => hx) (by simp) (by simp)
  obtain ⟨m, h1, h2⟩ := d.pre
  have hnd := d.nodup
  rw [h1, List.nil_append] at hnd
  refine ⟨h2.nodup_iff.2 hnd, fun x => ?_, ne⟩
  unfold behindF
  rw [h2.mem_iff]
  rw [List.nil_append] at h1
  rw [← h1]
  exact ⟨fun h => d.sub x h, fun h => cl.1 x h⟩
theorem partS_PI {g : Gr} (w : g.WF) {l1 l2 : List Nat} {n : Nat} {s : List Nat × List (List Nat)} (hl : (behindF g).reverse = l1 ++ n :: l2) (h : PI g l1 s) : PI g (l1 ++ [n]) (partS (trn g) (g.N.length + 1) s n) := by
  have wt := tRn w
  obtain ⟨hnd, hmem, hnest⟩ := behind_perm w
  have hB : behindF g = l2.reverse ++ n :: l1.reverse := by
    have := congrArg List.reverse hl
    simpa using this
  have hnN : n ∈ g.N := (hmem n).1 (by rw [hB]; simp)
  have hl1N : ∀ y ∈ l1, y ∈ g.N := fun y hy => (hmem y).1 (by rw [hB]; simp [hy])
  have hTN : ∀ x ∈ s.1, x ∈ (trn g).N := fun x hx => by
    obtain ⟨y, _, hs⟩ := (h.mem x).1 hx
    rw [trn_N w]; exact hs.1.1
  have hnT : n ∈ (trn g).N := by rw [trn_N w]; exact hnN
  have hk : freeN (trn g) s.1 ≤ g.N.length := by have := freeN_le_len (trn g) s.1; rwa [trn_N w] at this
  by_cases hin : n ∈ s.1
  · -- it is of an earlier one
    have e1 : deepF (trn g) (g.N.length + 1) [n] s.1 = (s.1, []) := by
      rw [deepF_succ, List.foldl_cons, List.foldl_nil]
      unfold deepS; rw [if_pos hin]
    have e2 : partS (trn g) (g.N.length + 1) s n = s := by
      unfold partS
      simp only [e1, if_true]
    rw [e2]
    refine ⟨fun x => ?_, h.nodup, h.each, h.cov, h.sub, h.dis⟩
    rw [h.mem]
    constructor
    · rintro ⟨y, hy, hs⟩; exact ⟨y, by simp [hy], hs⟩
    · rintro ⟨y, hy, hs⟩
      rcases List.mem_append.1 hy with hy | hy
      · exact ⟨y, hy, hs⟩
      · simp at hy; subst hy
        obtain ⟨z, hz, hs'⟩ := (h.mem y).1 hin
        exact ⟨z, hz, hs.trans hs'⟩
  have ok := deepF_ok wt (g.N.length + 1) [n] s.1 (by simpa using hnT) h.nodup hTN
  have cl := deepF_cl wt g.N.length [n] s.1 hk (by simpa using hnT) h.nodup hTN
  obtain ⟨m, h1, h2⟩ := ok.pre
  have hnd' := ok.nodup
  rw [h1] at hnd'
  have hm : ∀ x, x ∈ (deepF (trn g) (g.N.length + 1) [n] s.1).2 ↔ x ∈ (deepF (trn g) (g.N.length + 1) [n] s.1).1 ∧ x ∉ s.1 := fun x => by
    rw [h2.mem_iff, h1]
    constructor
    · intro hx
      exact ⟨List.mem_append_right _ hx, fun hh => (List.nodup_append.1 hnd').2.2 x hh x hx rfl⟩
    · rintro ⟨hx, hn⟩
      rcases List.mem_append.1 hx with hx | hx
      · exact absurd hx hn
      · exact hx
  -- what is entered anew is the component of n
  have hsc : ∀ x, x ∈ (deepF (trn g) (g.N.length + 1) [n] s.1).2 ↔ SC g x n := fun x => by
    rw [hm]
    constructor
    · rintro ⟨hx, hxT⟩
      obtain ⟨_, a, ha, d, wy⟩ := cl.2 x hx hxT
      simp at ha; subst ha
      have hxn : Re g x a := (Re.trn w).1 ⟨hnT, d, wy⟩
      refine Classical.byContradiction fun hns => ?_
      have hxN := hxn.1
      have hself := SC.refl w hxN
      have hx1 : x ∉ l1 := fun hh => hxT ((h.mem x).2 ⟨x, hh, hself⟩)
      have hxB : x ∈ behindF g := (hmem x).2 hxN
      have hx2 : x ∈ l2.reverse := by
        rw [hB] at hxB
        rcases List.mem_append.1 hxB with hh | hh
        · exact hh
        · rcases List.mem_cons.1 hh with hh | hh
          · subst hh; exact absurd hself hns
          · exact absurd (List.mem_reverse.1 hh) hx1
      obtain ⟨c, hc⟩ := List.getElem?_of_mem hx2
      have hcl := (List.getElem?_eq_some_iff.1 hc).1
      have ha' : (behindF g)[l2.reverse.length]? = some a := by rw [hB, List.getElem?_append_right (Nat.le_refl _), Nat.sub_self]; rfl
      have hc' : (behindF g)[c]? = some x := by rw [hB, List.getElem?_append_left hcl]; exact hc
      obtain ⟨j, z, hj, hjz, hs⟩ := behind_one w (fun y hy => (hmem y).2 hy) hnd hnest ha' hxn (fun hh => hns hh.symm) _ c x (Nat.le_refl _) hcl hc' hself
      have hz1 : z ∈ l1 := by
        rw [hB, List.getElem?_append_right (by omega)] at hjz
        have hj1 : 0 < j - l2.reverse.length := by omega
        obtain ⟨t, ht⟩ : ∃ t, j - l2.reverse.length = t + 1 := ⟨j - l2.reverse.length - 1, by omega⟩
        rw [ht, List.getElem?_cons_succ] at hjz
        exact List.mem_reverse.1 (List.mem_of_getElem? hjz)
      exact hxT ((h.mem x).2 ⟨z, hz1, hs.symm⟩)
    · intro hs
      have notT : ∀ {z}, SC g z n → z ∉ s.1 := fun {z} hz hh => by
        obtain ⟨y, hy, hs'⟩ := (h.mem z).1 hh
        exact hin ((h.mem n).2 ⟨y, hy, hz.symm.trans hs'⟩)
      refine ⟨?_, notT hs⟩
      obtain ⟨_, d, wy⟩ := (Re.trn w).2 hs.1
      have : ∀ {q d}, Way (trn g) 0 n q d → SC g q n → q ∈ (deepF (trn g) (g.N.length + 1) [n] s.1).1 := by
        intro q d wy
        induction wy with
        | nil _ => intro _; exact cl.1 n (by simp)
        | @snoc b q d w1 t1 _ ihw =>
          intro hq
          have t2 := (trn_to w).1 t1
          have hqb : Re g q b := .step w t2.1 t2.2
          have hbn : Re g b n := (Re.trn w).1 ⟨hnT, d, w1⟩
          have hb : SC g b n := ⟨hbn, hq.2.trans hqb⟩
          exact (cl.2 b (ihw hb) (notT hb)).1 q t1
      exact this wy hs
  have hne : (deepF (trn g) (g.N.length + 1) [n] s.1).2 ≠ [] := fun e => by
    have := (hsc n).2 (SC.refl w hnN)
    rw [e] at this; cases this
  have hr1 : ∀ x, x ∈ (deepF (trn g) (g.N.length + 1) [n] s.1).1 ↔ x ∈ s.1 ∨ SC g x n := fun x => by
    rw [← hsc, h2.mem_iff, h1, List.mem_append]
  have hnd2 : (deepF (trn g) (g.N.length + 1) [n] s.1).2.Nodup := h2.nodup_iff.2 (List.nodup_append.1 hnd').2.1
  unfold partS
  rw [if_neg hne]
  generalize deepF (trn g) (g.N.length + 1) [n] s.1 = r at *
  have hsub' : ∀ x, x ∈ srt r.2 ↔ SC g x n := fun x => by rw [srt_mem, hsc]
  refine ⟨fun x => ?_, ok.nodup, fun p hp => ?_, fun x hx => ?_, fun p hp x hx => ?_, ?_⟩
  · simp only
    rw [hr1, h.mem]
    constructor
    · rintro (⟨y, hy, hs⟩ | hs)
      · exact ⟨y, by simp [hy], hs⟩
      · exact ⟨n, by simp, hs⟩
    · rintro ⟨y, hy, hs⟩
      rcases List.mem_append.1 hy with hy | hy
      · exact .inl ⟨y, hy, hs⟩
      · simp at hy; subst hy; exact .inr hs
  · rcases List.mem_append.1 hp with hp | hp
    · exact h.each p hp
    · simp at hp; subst hp
      refine ⟨?_, n, hnN, hsub'⟩
      have h1 := srt_le r.2
      have h2 : (srt r.2).Nodup := (srt_perm _).nodup_iff.2 hnd2
      exact (h1.and h2).imp fun ⟨a, b⟩ => by omega
  · rcases (hr1 x).1 hx with hx | hx
    · obtain ⟨p, hp, hpx⟩ := h.cov x hx
      exact ⟨p, by simp [hp], hpx⟩
    · exact ⟨srt r.2, by simp, (hsub' x).2 hx⟩
  · rcases List.mem_append.1 hp with hp | hp
    · exact (hr1 x).2 (.inl (h.sub p hp x hx))
    · simp at hp; subst hp
      exact (hr1 x).2 (.inr ((hsub' x).1 hx))
  · refine List.pairwise_append.2 ⟨h.dis, by simp, fun p hp q hq x hx hxq => ?_⟩
    simp at hq; subst hq
    have hs := (hsub' x).1 hxq
    obtain ⟨y, hy, hs'⟩ := (h.mem x).1 (h.sub p hp x hx)
    exact hin ((h.mem n).2 ⟨y, hy, hs.symm.trans hs'⟩)
theorem parts_PI {g : Gr} (w : g.WF) : ∀ (l2 l1 : List Nat) {s : List Nat × List (List Nat)}, (behindF g).reverse = l1 ++ l2 → PI g l1 s → PI g (behindF g).reverse (l2.foldl (partS (trn g) (g.N.length + 1)) s)
  | [], l1, s, hl, h => by rw [hl, List.append_nil]; exact h
  | n :: l2, l1, s, hl, h => by
    have := partS_PI w hl h
    exact parts_PI w l2 (l1 ++ [n]) (by rw [hl]; simp) this
/-- the strong components, each once, each rising -/
structure PC (g : Gr) (ps : List (List Nat)) : Prop where
  each : ∀ p ∈ ps, p.Pairwise (· < ·) ∧ ∃ n ∈ g.N, ∀ x, x ∈ p ↔ SC g x n
  cov : ∀ x ∈ g.N, ∃ p ∈ ps, x ∈ p
  dis : ps.Pairwise fun a b => ∀ x ∈ a, x ∉ b
theorem partsF_PC {g : Gr} (w : g.WF) : PC g (partsF g) := by
  have h := parts_PI w (behindF g).reverse [] (s := ([], [])) (by simp) ⟨fun x => by simp, by simp, (fun p hp => by cases hp), (fun x hx => by cases hx), (fun p hp => by cases hp), List.Pairwise.nil⟩
  have hB := behind_perm w
  refine ⟨h.each, fun x hx => h.cov x ((h.mem x).2 ⟨x, ?_, SC.refl w hx⟩), h.dis⟩
  rw [List.mem_reverse]; exact (hB.2.1 x).2 hx
theorem PC.ne {g : Gr} (w : g.WF) {ps : List (List Nat)} (h : PC g ps) : ∀ p ∈ ps, p ≠ [] := fun p hp e => by
  obtain ⟨_, n, hn, hx⟩ := h.each p hp
  have := (hx n).2 (SC.refl w hn)
  rw [e] at this; cases this
theorem PC.perm {g : Gr} {ps qs : List (List Nat)} (h : PC g ps) (p : qs.Perm ps) : PC g qs :=
  ⟨fun q hq => h.each q (p.mem_iff.1 hq), fun x hx => let ⟨q, hq, hh⟩ := h.cov x hx; ⟨q, p.mem_iff.2 hq, hh⟩, (p.pairwise_iff (fun hab x hxb hxa => hab x hxa hxb)).2 h.dis⟩
theorem PC.trn {g : Gr} (w : g.WF) {ps : List (List Nat)} (h : PC (trn g) ps) : PC g ps :=
  ⟨fun p hp => ⟨(h.each p hp).1, by obtain ⟨n, hn, hx⟩ := (h.each p hp).2; exact ⟨n, by rw [← trn_N w]; exact hn, fun x => (hx x).trans (SC.trn w)⟩⟩, fun x hx => h.cov x (by rw [trn_N w]; exact hx), h.dis⟩
theorem PC.mem {g : Gr} (w : g.WF) {ps qs : List (List Nat)} (h : PC g ps) (k : PC g qs) {p : List Nat} (hp : p ∈ ps) : p ∈ qs := by
  obtain ⟨hup, n, hn, hx⟩ := h.each p hp
  obtain ⟨q, hq, hnq⟩ := k.cov n hn
  obtain ⟨hup', m, hm, hy⟩ := k.each q hq
  have hnm := (hy n).1 hnq
  have : p = q := sorted_ext (fun a b h => by omega) p q hup hup' fun x => by
    rw [hx, hy]
    exact ⟨fun h => h.trans hnm, fun h => h.trans hnm.symm⟩
  rw [this]; exact hq
/-- heads: strictly rising -/
theorem PC.heads {g : Gr} (w : g.WF) {ps : List (List Nat)} (h : PC g ps) (up : ps.Pairwise fun a b => a.headD 0 ≤ b.headD 0) : ps.Pairwise fun a b => a.headD 0 < b.headD 0 := by
  have hne := h.ne w
  have := up.and h.dis
  refine this.imp_of_mem fun {a b} ha hb ⟨h1, h2⟩ => ?_
  obtain ⟨x, a', rfl⟩ := List.exists_cons_of_ne_nil (hne a ha)
  obtain ⟨y, b', rfl⟩ := List.exists_cons_of_ne_nil (hne b hb)
  simp only [List.headD_cons] at h1 ⊢
  have := h2 x (by simp)
  simp only [List.mem_cons, not_or] at this
  omega
/-- the parts are the same, turned about -/
theorem parts_turned {g : Gr} (w : g.WF) {ps qs : List (List Nat)} (h : PartsR g ps) (k : PartsR (trn g) qs) : ps = qs := by
  have h1 := (partsF_PC w).perm h.perm
  have h2 := (((partsF_PC (tRn w)).perm k.perm)).trn w
  exact sorted_ext (fun a b h => by omega) ps qs (h1.heads w h.up) (h2.heads w k.up) fun p => ⟨fun hp => h1.mem w h2 hp, fun hp => h2.mem w h1 hp⟩
end Go.Proofs.G
namespace Go.Proofs.G
/-- there is no ring -/
def Acyc (g : Gr) : Prop := ∀ n t, n ∈ g.N → t ∈ g.to n → ¬ Re g t n
theorem acyc_single {g : Gr} (w : g.WF) {ps : List (List Nat)} (h : PC g ps) : (∀ p ∈ ps, p.length = 1 ∧ p.headD 0 ∉ g.to (p.headD 0)) ↔ Acyc g := by
  constructor
  · intro hs n t hn ht hr
    obtain ⟨p, hp, hnp⟩ := h.cov n hn
    obtain ⟨hl, hself⟩ := hs p hp
    obtain ⟨_, m, _, hx⟩ := h.each p hp
    have htp : t ∈ p := (hx t).2 (SC.trans ⟨hr, .step w hn ht⟩ ((hx n).1 hnp))
    obtain ⟨z, rfl⟩ := List.length_eq_one_iff.1 hl
    simp at hnp htp hself
    subst hnp; subst htp
    exact hself ht
  · intro ha p hp
    obtain ⟨hup, m, hm, hx⟩ := h.each p hp
    have hmp : m ∈ p := (hx m).2 (SC.refl w hm)
    have one : ∀ x ∈ p, x = m := fun x hxp => Classical.byContradiction fun hne => by
      obtain ⟨⟨hxN, d, wy⟩, hmx⟩ := (hx x).1 hxp
      cases d with
      | zero => exact hne wy.zero
      | succ d =>
        obtain ⟨b, hb, wb⟩ := wy.head
        exact ha x b hxN hb ((show Re g b m from ⟨w.sub _ _ hb, d, wb⟩).trans hmx)
    have hp1 : p = [m] := by
      cases p with
      | nil => cases hmp
      | cons a p =>
        have ha' := one a (by simp)
        subst ha'
        cases p with
        | nil => rfl
        | cons b p =>
          have hb := one b (by simp)
          subst hb
          simp at hup
    subst hp1
    refine ⟨rfl, fun hh => ha m m hm hh (.refl w hm)⟩
theorem dist_re {g : Gr} (w : g.WF) {a b : Nat} (ha : a ∈ g.N) (hb : b ∈ g.N) : dist g a b ≠ none ↔ Re g a b := by
  rw [Ne, dist_none w ha hb]
  exact ⟨fun h => ⟨ha, Classical.byContradiction h⟩, fun h hn => hn h.2⟩
/-- there is a ring just if there is one -/
theorem ring_acyc {g : Gr} (w : g.WF) : ringF g = none ↔ Acyc g := by
  constructor
  · intro h n t hn ht hr
    have htN := w.sub _ _ ht
    cases hd : dist g t n with
    | none => exact (dist_re w htN hn).2 hr hd
    | some d =>
      obtain ⟨r, hr', _⟩ := ring_least w hn ht hd
      rw [h] at hr'; cases hr'
  · intro ha
    cases h : ringF g with
    | none => rfl
    | some r =>
      exfalso
      obtain ⟨h0, _, hN, hed⟩ := ring_round w h
      obtain ⟨x, hx⟩ : ∃ x, r[0]? = some x := ⟨_, List.getElem?_eq_getElem h0⟩
      obtain ⟨y, hy⟩ : ∃ y, r[(0 + 1) % r.length]? = some y := ⟨_, List.getElem?_eq_getElem (Nat.mod_lt _ h0)⟩
      have hxN := hN x (List.mem_of_getElem? hx)
      have hyN := hN y (List.mem_of_getElem? hy)
      have he := hed 0 x y hx hy
      have hf := ring_far w h hx hy
      exact ha x y hxN he ((dist_re w hyN hxN).1 (by rw [hf]; simp))
/-- where all are listed, each stands ahead of those it names -/
theorem greedy_ahead {g : Gr} (w : g.WF) {l : List Nat} (G : Greedy g l) {i j x y : Nat} (hx : l[i]? = some x) (hy : l[j]? = some y) (he : y ∈ g.to x) : i < j := by
  have hxN := G.sub x (List.mem_of_getElem? hx)
  have hp := (G.at' j y hy).2.1
  refine Classical.byContradiction fun hij => ?_
  have hnt : x ∉ l.take j := fun hh => by
    obtain ⟨k, hk⟩ := List.getElem?_of_mem hh
    have hkl := (List.getElem?_eq_some_iff.1 hk).1
    rw [List.length_take] at hkl
    rw [List.getElem?_take_of_lt (by omega)] at hk
    have := (List.getElem?_inj (by omega : k < l.length) G.nodup).1 (hk.trans hx.symm)
    omega
  have := preN_pos hxN hnt he
  omega
theorem full_of_len {l N : List Nat} (hl : l.Nodup) (hs : ∀ x ∈ l, x ∈ N) (hN : N.Nodup) (hlen : ¬ l.length < N.length) : ∀ x ∈ N, x ∈ l := fun x hx => Classical.byContradiction fun hn => by
  have h1 : (x :: l).Nodup := List.nodup_cons.2 ⟨hn, hl⟩
  have := len_le_of_nodup h1 fun y hy => by
    rcases List.mem_cons.1 hy with rfl | hy
    · exact hx
    · exact hs y hy
  simp at this
  omega
theorem order_acyc {g : Gr} (w : g.WF) {l : List Nat} (G : Greedy g l) (hrest : ∀ y ∈ g.N, y ∉ l → preN g l y ≠ 0) : ¬ l.length < g.N.length ↔ Acyc g := by
  constructor
  · intro hlen n t hn ht hr
    have full := full_of_len G.nodup G.sub (nodup_up w.up) hlen
    have htN := w.sub _ _ ht
    obtain ⟨_, d, wy⟩ := hr
    obtain ⟨i, hi⟩ := List.getElem?_of_mem (full n hn)
    obtain ⟨j, hj⟩ := List.getElem?_of_mem (full t htN)
    have hij := greedy_ahead w G hi hj ht
    have up : ∀ {b d}, Way g 0 t b d → ∀ k, l[k]? = some b → j ≤ k := by
      intro b d wy
      induction wy with
      | nil _ => intro k hk; have := (List.getElem?_inj (List.getElem?_eq_some_iff.1 hk).1 G.nodup).1 (hk.trans hj.symm); omega
      | @snoc b c d w1 h1 h2 ihw =>
        intro k hk
        obtain ⟨q, hq⟩ := List.getElem?_of_mem (full b (w1.inN w htN))
        have a1 := ihw q hq
        have a2 := greedy_ahead w G hq hk h1
        omega
    have := up wy i hi
    omega
  · intro ha hlen
    obtain ⟨y, hy, hyl⟩ : ∃ y ∈ g.N, y ∉ l := Classical.byContradiction fun hn => by
      have := len_le_of_nodup (nodup_up w.up) fun x hx => Classical.byContradiction fun h => hn ⟨x, hx, h⟩
      omega
    classical
    have key : ∀ (m y : Nat), g.N.countP (fun z => decide (z ∉ l ∧ Re g z y)) ≤ m → y ∈ g.N → y ∉ l → False := by
      intro m
      induction m with
      | zero =>
        intro y hm hy hyl
        have : 0 < g.N.countP (fun z => decide (z ∉ l ∧ Re g z y)) := List.countP_pos_iff.2 ⟨y, hy, by simp [hyl, Re.refl w hy]⟩
        omega
      | succ m ih =>
        intro y hm hy hyl
        have h0 := hrest y hy hyl
        unfold preN at h0
        obtain ⟨n, hn, hnp⟩ := List.countP_pos_iff.1 (Nat.pos_of_ne_zero h0)
        simp only [Bool.and_eq_true, Bool.not_eq_true', decide_eq_false_iff_not, decide_eq_true_eq] at hnp
        refine ih n ?_ hn hnp.1
        have hny := Re.step w hn hnp.2
        have := countP_lt (p := fun z => decide (z ∉ l ∧ Re g z n)) (q := fun z => decide (z ∉ l ∧ Re g z y)) (l := g.N) (fun z _ hz => by
          simp only [decide_eq_true_eq] at hz ⊢
          exact ⟨hz.1, hz.2.trans hny⟩) y hy (by simp [hyl, Re.refl w hy]) (by
          simp only [decide_eq_false_iff_not]
          rintro ⟨_, hr⟩
          exact ha n y hn hnp.2 hr)
        omega
    exact key _ y (Nat.le_refl _) hy hyl
end Go.Proofs.G
open Go Go.Hv
set_option maxRecDepth 100000
namespace Go.Proofs.G
theorem Nw.kx {m : Nat} {h h' : Heap} {v : Value} {l : List Nat} (N : Nw m h v l) (hk : ∀ c, blkOf v = some c → h'[c]? = h[c]?) : Nw m h' v l := ⟨N.own.keep hk, N.lo⟩
theorem hb10 : hasBody P 10 = true := by kernel_rfl
theorem hb16 : hasBody P 16 = true := by kernel_rfl
theorem Nw.put {m : Nat} {h : Heap} {v : Value} {l : List Nat} (N : Nw m h v l) {i : Nat} (hi : i < l.length) (x : Nat) : ∃ a, (∀ K h', run P (.indexAddr 22 v (I i)) K h' = K (.pointer (some a)) h') ∧
    ∀ {K : Value → Heap → Prop}, (∀ h', Nw m h' v (l.set i x) → (∀ c, blkOf v ≠ some c → h'[c]? = h[c]?) → h'.size = h.size → K undef h') → run P (.store 41 (.pointer (some a)) (R x)) K h := by
  have hlo := N.lo
  rcases N.own with ⟨_, h0⟩ | ⟨b, cap, rfl, r⟩
  · have : l = [] := by simpa using h0
    subst this; simp at hi
  · have hc : cell h ⟨b, i, none⟩ = some (R l[i]) := Row.cell r (by simp [hi])
    refine ⟨⟨b, i, none⟩, fun K h' => ?_, fun {K} hk => ?_⟩
    · have := ans_indexAddr (P := P) s22 (a := ⟨b, 0, none⟩) (len := (l.map R).length) (cap := cap) (k := .i64) (i := (i : Int)) (by omega) (by simp; omega) (h := h')
      rw [Addr.add_add0] at this
      rw [show (.slice (some ⟨b, 0, none⟩) (l.map R).length cap : Value) = .slice (some ⟨b, 0, none⟩) (l.map R).length cap from rfl, this.run]
      simp
    · refine Hv.run_store o41 rfl hc (Row.froz r i none) (hk _ ⟨.inr ⟨b, cap, by simp, ?_⟩, hlo⟩ (fun c hc => setC_get_ne _ _ _ (fun e => hc (by rw [e]; rfl))) (setC_size _ _ _))
      have := Row.set r (i := i) (R x)
      rwa [← List.map_set] at this
/-- same: alike; what it is given is written over -/
theorem same_spec {m n : Nat} {h0 : Heap} {v w : Value} {l : List Nat} (A : Nw m h0 v l) (B : Rs n h0 w l) (hl : l.length ≤ 100000) (hm : m ≤ h0.size) :
    HCalls P 16 #[v, w] h0 fun u h' => u = .bool true ∧ h0.size ≤ h'.size ∧ ∀ c, c < h0.size → blkOf v ≠ some c → h'[c]? = h0[c]? := by
  refine same_ok ?_
  unfold same_c0
  have nn : ∀ x : Nat, ((x : Int) != (x : Int)) = false := fun x => by simp
  simp only [fr, (A.rs.len false).1, (B.len false).1, ops P, nn, bb, if_false]
  refine lp_up l.length (fun j f h => f 0 = v ∧ f 1 = w ∧ f 5 = I j ∧ h = h0) ⟨rfl, rfl, rfl, rfl⟩ ?_
  rintro j f h Q' hj ⟨f0, f1, f5, rfl⟩ on out
  unfold same_L4
  simp only [f0, f1, f5, (A.rs.len false).1, ops P, lt_R]
  by_cases hjl : j < l.length
  · obtain ⟨x, hx⟩ : ∃ e, l[j]? = some e := ⟨_, List.getElem?_eq_getElem hjl⟩
    obtain ⟨p, i1, p1, _⟩ := A.rs.ax hx .i64
    obtain ⟨q, i2, p2, _⟩ := B.ax hx .i64
    rw [if_pos (by simpa using hjl)]
    simp only [(i1 h).still, (i2 h).still, load_still o41 p1, load_still o41 p2, ops P, nn, bb, if_false]
    exact on _ _ hjl ⟨f0, f1, congrArg _ (wInc (by omega)), rfl⟩
  rw [if_neg (by simpa using hjl)]
  refine out _ _ _ (by simp) ?_
  simp only [ex]
  unfold same_c1
  clear on out
  refine lp_up l.length (fun j f h' => f 0 = v ∧ f 6 = I j ∧ h'.size = h.size ∧ (∃ l', l'.length = l.length ∧ Nw m h' v l') ∧ ∀ c, blkOf v ≠ some c → h'[c]? = h[c]?) ⟨f0, rfl, rfl, ⟨l, rfl, A⟩, fun _ _ => rfl⟩ ?_
  clear f0 f1 f5
  rintro j f h' Q' hj ⟨f0, f6, hs, ⟨l', hl', A'⟩, K'⟩ on out
  unfold same_L3
  simp only [f0, f6, (A'.rs.len false).1, ops P, lt_R]
  rw [hl']
  by_cases hjl : j < l.length
  · rw [if_pos (by simpa using hjl)]
    obtain ⟨a, a1, a2⟩ := A'.put (i := j) (by omega) 4711
    rw [a1]
    refine a2 fun h2 A2 K2 s2 => ?_
    try simp only [ops P]
    exact on _ _ hjl ⟨f0, congrArg _ (wInc (by omega)), s2.trans hs, ⟨_, by simpa using hl', A2⟩, fun c hc => (K2 c hc).trans (K' c hc)⟩
  rw [if_neg (by simpa using hjl)]
  refine out _ _ _ (by simp) ?_
  simp only [ex]
  unfold same_c2
  simp only [rdU, reduceIte, Nat.reduceEqDiff, f0]
  refine A'.pushB 4712 (by omega) (by omega) fun u v' h2 A2 K2 s2 b2 => ?_
  exact post_ret1 ⟨rfl, by omega, fun c hc hne => (K2 c (by omega) hne).trans (K' c hne)⟩
theorem turned0_spec {n : Nat} {h0 : Heap} {p : Value} {g : Gr} (G0 : GR n h0 p g) (w : g.WF) (hn : n ≤ h0.size) :
    HCalls P 10 #[p] h0 fun v h' => Old h0.size h0 h' ∧ ∃ b, v = .pointer (some ⟨b, 0, none⟩) ∧ GR h'.size h' v (trn g) := by
  refine turned0_ok ?_
  unfold turned0_c0
  simp only [fr]
  refine run_callF hb33 ((turned_spec G0 w hn).mono ?_)
  rintro _ h1 ⟨O, b, vv, bt, bh, es, hs, rfl, GM⟩
  exact post_ret1 ⟨O, b, rfl, ⟨_, _, _, _, _, _, rfl, GM.ga⟩⟩
/-- a part, looked up -/
theorem PV.ax {m : Nat} {h : Heap} {v : Value} {xs : List (Value × List Nat)} (p : PV m h v xs) {i : Nat} {w : Value} {l : List Nat} (hx : xs[i]? = some (w, l)) :
    ∃ a : Addr, (∀ h', Ans P (.indexAddr 36 v (I i)) (.pointer (some a)) h') ∧ cell h a = some w ∧ blkOf v = some a.block ∧ Nw m h w l ∧ l ≠ [] ∧ l.length ≤ 4096 := by
  have he := p.each _ (List.mem_of_getElem? hx)
  obtain ⟨a, a1, a2, a3⟩ := p.own.sl.index s36 (k := .i64) (i := i) (x := w) (by rw [List.getElem?_map, hx]; rfl)
  exact ⟨a, a1, a2, a3, he.1, he.2.1, he.2.2⟩
theorem PV.lx {m : Nat} {h : Heap} {v : Value} {xs : List (Value × List Nat)} (p : PV m h v xs) (c : Bool) : ∀ h', Ans P (.builtin .len #[36] 3 [c] [v]) (I xs.length) h' := by
  intro h'
  obtain ⟨ao, cc, rfl, _⟩ := p.own.sl
  have := ans_lenSlice (P := P) s36 (ty := 3) (c := c) (a := ao) (n := (xs.map (·.1)).length) (k := cc) (h := h')
  have e : (I (xs.map (·.1)).length) = I xs.length := by rw [List.length_map]
  rw [← e]; exact this
end Go.Proofs.G
open Go Go.Hv
set_option maxRecDepth 100000
namespace Go.Proofs.G
theorem run_bs0 (K : Value → Heap → Prop) (h : Heap) : run P (.buildSlice 22 0 []) K h = K (.slice (some ⟨h.size, 0, none⟩) 0 0) (h.push (.cells #[] 41)) := by kernel_rfl
theorem tkAns {St : Heap → Prop} {h : Heap} {x : X} {v : Value} (s : St h) (e : ∀ h', St h' → Ans P x v h') (K : Value → Prop) : tk P St x K h = K v :=
  propext ⟨fun ⟨v', _, e', hk⟩ => by
    have a := e' h s
    have b := e h s
    unfold Ans at b
    rw [a] at b
    cases b
    exact hk, fun hk => ⟨v, s, e, hk⟩⟩
/-- reads of what no other operation hangs on -/
theorem tkP {St : Heap → Prop} {h : Heap} (s : St h) : (∀ v K, tk P St (.move v) K h = K v) ∧ (∀ c a b K, tk P St (.pick (.bool c) a b) K h = K (if c = true then a else b)) ∧ (∀ b K, tk P St (.un .not (.bool b)) K h = K (.bool !b)) ∧
    (∀ t c d k a b K, tk P St (.bin .geq t c d (.int k a) (.int k b)) K h = K (.bool (decide (b ≤ a)))) ∧ (∀ t c d k a b K, tk P St (.bin .eql t c d (.int k a) (.int k b)) K h = K (.bool (a == b))) :=
  ⟨fun v K => tkAns s (fun _ _ => ans_move) K, fun c a b K => tkAns s (fun _ _ => ans_pick) K, fun b K => tkAns s (fun _ _ => ans_not) K, fun t c d k a b K => tkAns s (fun _ _ => ans_geq) K, fun t c d k a b K => tkAns s (fun _ _ => ans_eql) K⟩
/-- the part is a single node, not among those it names -/
def sgl (g : Gr) (p : List Nat) : Bool := decide (p.length = 1) && !decide (p.headD 0 ∈ g.to (p.headD 0))
theorem sgl_iff {g : Gr} {ps : List (List Nat)} : ps.all (sgl g) = true ↔ ∀ p ∈ ps, p.length = 1 ∧ p.headD 0 ∉ g.to (p.headD 0) := by
  rw [List.all_eq_true]
  simp [sgl]
theorem neB (a b : Bool) (h : Heap) : Ans P (.bin .neq 4 false false (.bool a) (.bool b)) (.bool (a != b)) h := by
  cases a <;> cases b <;> (unfold Ans; kernel_rfl)
theorem flat_get {ps : List (List Nat)} {g : Gr} (hp : PC g ps) {j k : Nat} {l : List Nat} {x : Nat} (hl : ps[j]? = some l) (hx : l[k]? = some x) : x ∉ (ps.take j).flatten ++ l.take k := by
  intro hh
  rcases List.mem_append.1 hh with hh | hh
  · obtain ⟨p, hp1, hp2⟩ := List.mem_flatten.1 hh
    obtain ⟨i, hi⟩ := List.getElem?_of_mem hp1
    have hil := (List.getElem?_eq_some_iff.1 hi).1
    rw [List.length_take] at hil
    rw [List.getElem?_take_of_lt (by omega)] at hi
    have := List.pairwise_iff_getElem.1 hp.dis i j (by omega) (List.getElem?_eq_some_iff.1 hl).1 (by omega)
    rw [(List.getElem?_eq_some_iff.1 hi).2, (List.getElem?_eq_some_iff.1 hl).2] at this
    exact this x hp2 (List.mem_of_getElem? hx)
  · have hnd := nodup_up (hp.each l (List.mem_of_getElem? hl)).1
    exact not_mem_take hnd hx hh
theorem flat_len {g : Gr} (w : g.WF) {ps : List (List Nat)} (hp : PC g ps) : ps.flatten.length = g.N.length := by
  have hnd : ps.flatten.Nodup := by
    unfold List.Nodup
    rw [List.pairwise_flatten]
    exact ⟨fun l hl => nodup_up (hp.each l hl).1, hp.dis.imp fun {a b} h x hx y hy => fun (e : x = y) => h x hx (e ▸ hy)⟩
  have hm : ∀ x, x ∈ ps.flatten ↔ x ∈ g.N := fun x => by
    rw [List.mem_flatten]
    constructor
    · rintro ⟨p, hpp, hx⟩
      obtain ⟨_, n, _, hh⟩ := hp.each p hpp
      exact ((hh x).1 hx).1.1
    · exact fun h => hp.cov x h
  exact Nat.le_antisymm (len_le_of_nodup hnd fun x hx => (hm x).1 hx) (len_le_of_nodup (nodup_up w.up) fun x hx => (hm x).2 hx)
theorem flat_le {g : Gr} (w : g.WF) {ps : List (List Nat)} (hp : PC g ps) (j : Nat) : (ps.take j).flatten.length ≤ g.N.length := by
  rw [← flat_len w hp]
  conv => rhs; rw [← List.take_append_drop j ps, List.flatten_append, List.length_append]
  omega
/-- one part more -/
theorem parts_inner {g : Gr} (w : g.WF) {ps : List (List Nat)} (hp : PC g ps) {m : Nat} {h0 : Heap} {nv ev gv lv mv pw : Value} {xs : List (Value × List Nat)} {j : Nat} {l : List Nat} {b : Bool} (hpl : ps[j]? = some l) (hxl : xs[j]? = some (pw, l)) (X : PV m h0 lv xs) (hm : m ≤ h0.size) {Q : Exit → Hv.F → Heap → Prop} {f : Hv.F} {h : Heap}
    (f0 : f 0 = nv) (f1 : f 1 = ev) (f5 : f 5 = gv) (f7 : f 7 = lv) (f8 : f 8 = mv) (f10 : f 10 = .bool b) (f11 : f 11 = I j) (f12 : f 12 = I 0) (A : Nw h0.size h (f 9) (ps.take j).flatten) (O : Old h0.size h0 h)
    (hk : ∀ f' h', f' 0 = nv → f' 1 = ev → f' 5 = gv → f' 7 = lv → f' 8 = mv → f' 10 = .bool b → f' 11 = I j → Nw h0.size h' (f' 9) (ps.take (j + 1)).flatten → Old h0.size h0 h' → Q (.exit 2) f' h') : lp lParts_L10 Q f h := by
  have hfew := w.few
  have hl4 := (X.ax hxl).choose_spec.2.2.2.2.2
  refine lp_up l.length (fun k f h => f 0 = nv ∧ f 1 = ev ∧ f 5 = gv ∧ f 7 = lv ∧ f 8 = mv ∧ f 10 = .bool b ∧ f 11 = I j ∧ f 12 = I k ∧ Nw h0.size h (f 9) ((ps.take j).flatten ++ l.take k) ∧ Old h0.size h0 h) ⟨f0, f1, f5, f7, f8, f10, f11, f12, by simpa using A, O⟩ ?_
  clear f0 f1 f5 f7 f8 f10 f11 f12 A O
  rintro k f h Q' hkl ⟨f0, f1, f5, f7, f8, f10, f11, f12, A, O⟩ on out
  have q := O.size
  obtain ⟨a, a1, a2, a3, NW, _, _⟩ := (X.keep O (Nat.le_refl _)).ax hxl
  unfold lParts_L10
  simp only [f7, f11, f12, (anyh a1).1, load_run o22 a2, (NW.rs.len false).1, ops P, lt_R]
  by_cases hlt : k < l.length
  · obtain ⟨x, hx⟩ : ∃ e, l[k]? = some e := ⟨_, List.getElem?_eq_getElem hlt⟩
    obtain ⟨p, i1, p1, _⟩ := NW.rs.ax hx .i64
    have hno := flat_get hp hpl hx
    have hle := flat_le w hp j
    rw [if_pos (by simpa using hlt)]
    simp only [(anyh i1).1, load_run o41 p1]
    refine run_callF hb18 ((has_spec A.rs (by rw [List.length_append, List.length_take]; omega) x).mono ?_)
    rintro _ _ ⟨rfl, e⟩
    rw [e]
    simp only [decide_eq_false hno, ops P, bb, if_false, (anyh a1).1, load_run o22 a2, (anyh i1).1, load_run o41 p1]
    refine A.pushB x (by rw [List.length_append, List.length_take]; omega) q fun u v h' N' k' s' b' => ?_
    try simp only [ops P]
    refine on _ _ hlt ⟨f0, f1, f5, f7, f8, f10, f11, congrArg _ (wInc (by omega)), ?_, ⟨by omega, fun c hc => by rw [k' c (by omega) (fun e => by have := A.lo c e; omega), O.get c hc]⟩⟩
    rw [take_at hx, ← List.append_assoc]; exact N'
  rw [if_neg (by simpa using hlt)]
  refine out _ _ _ (by simp) ?_
  refine hk _ _ f0 f1 f5 f7 f8 f10 f11 ?_ O
  rw [List.take_of_length_le (show l.length ≤ k by omega)] at A
  have : (ps.take (j + 1)).flatten = (ps.take j).flatten ++ l := by rw [take_at hpl]; simp
  rw [this]; exact A
end Go.Proofs.G
open Go Go.Hv
set_option maxRecDepth 100000
namespace Go.Proofs.G
/-- the first part of the law: the parts are looked at one after another -/
theorem parts_loop {g : Gr} (w : g.WF) {ps : List (List Nat)} (hp : PC g ps) {n m1 m2 : Nat} {h0 : Heap} {nv ev gv lv mv : Value} {E : List (Nat × Nat)} {xs ys : List (Value × List Nat)} (hxs : xs.map (·.2) = ps) (hys : ys.map (·.2) = ps) (X : PV m1 h0 lv xs) (Y : PV m2 h0 mv ys) (hm1 : m1 ≤ h0.size) (hm2 : m2 ≤ h0.size)
    (T : Ed n h0 ev E) (hn : n ≤ h0.size) (hE : E.length ≤ 16384) (hto : ∀ a b, (a, b) ∈ E ↔ b ∈ g.to a) {Q : Exit → Hv.F → Heap → Prop} {f : Hv.F} {h : Heap}
    (f0 : f 0 = nv) (f1 : f 1 = ev) (f5 : f 5 = gv) (f7 : f 7 = lv) (f8 : f 8 = mv) (f9 : f 9 = .slice none 0 0) (f10 : f 10 = .bool true) (f11 : f 11 = I 0) (O : Old h0.size h0 h)
    (hk : ∀ f' h', f' 0 = nv → f' 1 = ev → f' 5 = gv → f' 7 = lv → f' 8 = mv → f' 10 = .bool (ps.all (sgl g)) → Nw h0.size h' (f' 9) ps.flatten → Old h0.size h0 h' → Q (.exit 0) f' h') : lp lParts_L8 Q f h := by
  have hfew := w.few
  have hpsl : ps.length ≤ 4096 := by
    have h1 := flat_len w hp
    have h2 : ps.length ≤ ps.flatten.length := by
      have hne := hp.ne w
      clear hp h1 hxs hys hk
      induction ps with
      | nil => simp
      | cons p ps ih =>
        have := ih fun q hq => hne q (by simp [hq])
        have hp0 := List.length_pos_iff.2 (hne p (by simp))
        simp only [List.flatten_cons, List.length_cons, List.length_append] at *
        omega
    omega
  have hxl : xs.length = ps.length := by rw [← hxs, List.length_map]
  have hyl : ys.length = ps.length := by rw [← hys, List.length_map]
  refine lp_up ps.length (fun j f h => f 0 = nv ∧ f 1 = ev ∧ f 5 = gv ∧ f 7 = lv ∧ f 8 = mv ∧ f 10 = .bool ((ps.take j).all (sgl g)) ∧ f 11 = I j ∧ Nw h0.size h (f 9) (ps.take j).flatten ∧ Old h0.size h0 h) ⟨f0, f1, f5, f7, f8, f10, f11, by rw [f9]; exact Nw.nil _ _, O⟩ ?_
  clear f0 f1 f5 f7 f8 f9 f10 f11 O
  rintro j f h Q' hj ⟨f0, f1, f5, f7, f8, f10, f11, A, O⟩ on out
  have q := O.size
  have XJ := X.keep O (Nat.le_refl _)
  have YJ := Y.keep O (Nat.le_refl _)
  unfold lParts_L8
  simp only [f7, f11, (anyh (XJ.lx false)).1, ops P, hxl, lt_R]
  by_cases hjl : j < ps.length
  rotate_left
  · rw [if_neg (by simpa using hjl)]
    refine out _ _ _ (by simp) ?_
    rw [List.take_of_length_le (show ps.length ≤ j by omega)] at A f10
    exact hk _ _ f0 f1 f5 f7 f8 f10 A O
  obtain ⟨l, hl⟩ : ∃ e, ps[j]? = some e := ⟨_, List.getElem?_eq_getElem hjl⟩
  obtain ⟨pw, hxj⟩ : ∃ pw, xs[j]? = some (pw, l) := by
    rw [← hxs, List.getElem?_map] at hl
    cases hh : xs[j]? with
    | none => rw [hh] at hl; cases hl
    | some e => rw [hh] at hl; simp at hl; exact ⟨e.1, by rw [← hl]⟩
  obtain ⟨qw, hyj⟩ : ∃ pw, ys[j]? = some (pw, l) := by
    rw [← hys, List.getElem?_map] at hl
    cases hh : ys[j]? with
    | none => rw [hh] at hl; cases hl
    | some e => rw [hh] at hl; simp at hl; exact ⟨e.1, by rw [← hl]⟩
  obtain ⟨a, a1, a2, a3, NX, hne, hll⟩ := XJ.ax hxj
  obtain ⟨b, b1, b2, b3, NY, _, _⟩ := YJ.ax hyj
  rw [if_pos (by simpa using hjl)]
  refine ⟨fun h' => ∀ c, c < h.size → h'[c]? = h[c]?, ?_⟩
  have s0 : ∀ c, c < h.size → h[c]? = h[c]? := fun _ _ => rfl
  have ca : ∀ h', (∀ c, c < h.size → h'[c]? = h[c]?) → cell h' a = some pw := fun h' hh => by
    have := XJ.own.lt a3
    unfold cell; rw [hh _ this]; exact a2
  have cb : ∀ h', (∀ c, c < h.size → h'[c]? = h[c]?) → cell h' b = some qw := fun h' hh => by
    have := YJ.own.lt b3
    unfold cell; rw [hh _ this]; exact b2
  have ge : decide (((ps.length : Nat) : Int) ≤ ((j : Nat) : Int)) = false := decide_eq_false (by omega)
  simp only [f8, tkP (St := fun h' => ∀ c, c < h.size → h'[c]? = h[c]?) s0, tkAns (St := fun h' => ∀ c, c < h.size → h'[c]? = h[c]?) s0 (fun h' _ => YJ.lx false h'), hyl, ge, ops P, bb,
    tkAns (St := fun h' => ∀ c, c < h.size → h'[c]? = h[c]?) s0 (fun h' _ => a1 h'), tkAns (St := fun h' => ∀ c, c < h.size → h'[c]? = h[c]?) s0 (fun h' _ => b1 h'), tkAns (St := fun h' => ∀ c, c < h.size → h'[c]? = h[c]?) s0 (fun h' hh => ans_load o22 (ca h' hh)), tkAns (St := fun h' => ∀ c, c < h.size → h'[c]? = h[c]?) s0 (fun h' hh => ans_load o22 (cb h' hh)), run_bs0]
  have k1 : ∀ c, c < h.size → (h.push (.cells #[] 41))[c]? = h[c]? := fun c hc => get_push_old _ _ hc
  refine ⟨k1, ?_⟩
  have N1 : Nw h.size (h.push (.cells #[] 41)) (.slice (some ⟨h.size, 0, none⟩) 0 0) [] := ⟨.inr ⟨h.size, 0, rfl, ⟨#[], get_push_new _ _, rfl, rfl⟩⟩, fun c hc => by cases hc; exact Nat.le_refl _⟩
  have S1 : Sl (h.push (.cells #[] 41)) pw (l.map R) := (NX.own.keep fun c hc => k1 c (NX.own.lt hc)).sl
  have qs : (h.push (.cells #[] 41)).size = h.size + 1 := by simp
  generalize h.push (.cells #[] 41) = h1 at *
  refine run_append1 eRef N1.own S1 (by simp [oneC]) (by simp; omega) (by simp; omega) fun v h2 o2 c2 b2' => ?_
  have q2 := c2.size
  have k2 : ∀ c, c < h.size → h2[c]? = h[c]? := fun c hc => (c2.get c (by omega) (fun e => by have e2 : h.size = c := Option.some.inj e; omega)).trans (k1 c hc)
  refine ⟨k2, ?_⟩
  have N2 : Nw h.size h2 v l := ⟨by simpa using o2, fun c hc => by
    rcases b2' c hc with h' | h'
    · cases h'; exact Nat.le_refl _
    · omega⟩
  have S2 : Rs h.size h2 qw l := ⟨(NY.own.keep fun c hc => k2 c (NY.own.lt hc)).sl, fun c hc => NY.own.lt hc⟩
  refine run_callF hb16 ((same_spec N2 S2 (by omega) (by omega)).mono ?_)
  rintro _ h3 ⟨rfl, q3, k3'⟩
  have k3 : ∀ c, c < h.size → h3[c]? = h[c]? := fun c hc => (k3' c (by omega) (fun e => by have := N2.lo c e; omega)).trans (k2 c hc)
  refine ⟨k3, ?_⟩
  have O3 : Old h.size h h3 := ⟨by omega, k3⟩
  have O03 : Old h0.size h0 h3 := O.trans (O3.mono q)
  have NX3 : Nw m1 h3 pw l := NX.kx fun c hc => k3 c (NX.own.lt hc)
  have A3 : Nw h0.size h3 (f 9) (ps.take j).flatten := A.kx fun c hc => k3 c (A.own.lt hc)
  have hpos := List.length_pos_iff.2 hne
  have z0 : (((l.length : Nat) : Int) == 0) = false := by simp; omega
  simp only [tkP (St := fun h' => ∀ c, c < h.size → h'[c]? = h[c]?) k3, ops P, bb, if_false, tkAns (St := fun h' => ∀ c, c < h.size → h'[c]? = h[c]?) k3 (fun h' _ => a1 h'), tkAns (St := fun h' => ∀ c, c < h.size → h'[c]? = h[c]?) k3 (fun h' hh => ans_load o22 (ca h' hh)), tkAns (St := fun h' => ∀ c, c < h.size → h'[c]? = h[c]?) k3 (fun h' _ => NX.rs.lx false h'), z0]
  have c3 := ca h3 k3
  have behind : ∀ (f' : Hv.F), f' 0 = nv → f' 1 = ev → f' 5 = gv → f' 7 = lv → f' 8 = mv → f' 9 = f 9 → f' 10 = .bool ((ps.take j).all (sgl g) && sgl g l) → f' 11 = I j → f' 12 = I 0 → lp lParts_L10 (inB 2 (inB 1 (thenQ (lParts_c9 Q') Q'))) f' h3 := by
    intro f' g0 g1 g5 g7 g8 g9 g10 g11 g12
    refine parts_inner w hp hl hxj X hm1 g0 g1 g5 g7 g8 g10 g11 g12 (by rw [g9]; exact A3) O03 fun f2 h4 k0 k1 k5 k7 k8 k10 k11 A4 O4 => ?_
    simp only [ex]
    unfold lParts_c9
    simp only [k11, ops P]
    refine on _ _ hjl ⟨k0, k1, k5, k7, k8, ?_, congrArg _ (wInc (by omega)), A4, O4⟩
    show f2 10 = _
    rw [k10, take_at hl, List.all_append]; simp
  obtain ⟨y, l', rfl⟩ := List.exists_cons_of_ne_nil hne
  obtain ⟨p, i1, p1, _⟩ := NX3.rs.ax (i := 0) (x := y) rfl .i64
  have i1' : ∀ K h, still P (.indexAddr 22 pw (.int .i64 0)) K h = K (.pointer (some p)) := fun K h => (i1 h).still K
  have T3 : Ed n h3 ev E := T.keep fun c hc => O03.get c (by omega)
  have o1 : ((((y :: l').length : Nat) : Int) == 1) = decide ((y :: l').length = 1) := beq_R
  have efl : (false == true) = false := rfl
  have ett : (true == true) = true := rfl
  cases hs : (ps.take j).all (sgl g) with
  | false =>
    rw [hs] at f10 behind
    simp only [f10, ops P, efl, bb, if_false]
    exact behind _ f0 f1 f5 f7 f8 rfl rfl f11 rfl
  | true =>
    rw [hs] at f10 behind
    simp only [f1, f10, ops P, ett, bb, if_true, (a1 h3).still, load_still o22 c3, (NX3.rs.len false).2, o1]
    by_cases h1 : (y :: l').length = 1
    · simp only [decide_eq_true h1, ops P, ett, bb, if_true, (a1 h3).still, load_still o22 c3, i1', load_still o41 p1]
      refine still_callF hb17 _ (edge_spec T3 (by omega) y y) ?_
      simp only [ops P, if_true]
      refine behind _ f0 f1 f5 f7 f8 rfl ?_ f11 rfl
      show Value.bool _ = _
      congr 1
      have : decide ((y, y) ∈ E) = decide (y ∈ g.to y) := by rw [decide_eq_decide]; exact hto y y
      rw [this]
      simp [sgl, h1]
    · simp only [decide_eq_false h1, ops P, efl, bb, if_false]
      refine behind _ f0 f1 f5 f7 f8 rfl ?_ f11 rfl
      show Value.bool _ = _
      congr 1
      have : sgl g (y :: l') = false := by unfold sgl; rw [decide_eq_false h1]; rfl
      rw [this]; rfl
end Go.Proofs.G
open Go Go.Hv
set_option maxRecDepth 100000
namespace Go.Proofs.G
theorem PC.len {g : Gr} (w : g.WF) {ps : List (List Nat)} (hp : PC g ps) : ps.length ≤ 4096 := by
  have hfew := w.few
  have h1 := flat_len w hp
  have h2 : ps.length ≤ ps.flatten.length := by
    have hne := hp.ne w
    clear hp h1
    induction ps with
    | nil => simp
    | cons p ps ih =>
      have := ih fun q hq => hne q (by simp [hq])
      have hp0 := List.length_pos_iff.2 (hne p (by simp))
      simp only [List.flatten_cons, List.length_cons, List.length_append] at *
      omega
  omega
theorem parts_law {n : Nat} {h0 : Heap} {nv ev : Value} {N : List Nat} {E : List (Nat × Nat)} (S : Rs n h0 nv N) (T : Ed n h0 ev E) (hn : n ≤ h0.size) :
    HCalls P 4 #[nv, ev] h0 fun v h' => v = .bool true ∧ Old h0.size h0 h' := by
  refine lParts_ok ?_
  unfold lParts_c0
  simp only [fr]
  refine run_callF hb13 ((lives_spec h0).mono ?_)
  rintro _ h1 ⟨rfl, O1⟩
  simp only [ops P, bb, if_false]
  have q1 := O1.size
  refine run_callF hb14 ((make_spec (S.old O1 hn) (T.old O1 hn) (by omega)).mono ?_)
  rintro _ h2 ⟨O2, (⟨hne, rfl⟩ | ⟨hok, gb, vv, bt, bh, es, hs, rfl, GM2⟩)⟩
  · simp only [ops P, mk_ne hne, bb, when_f, if_true, (eqP0 _).run]
    exact post_ret1 ⟨rfl, O1.trans (O2.mono q1)⟩
  have w := grOf_wf hok
  have q2 := O2.size
  have G2 : GR h2.size h2 (.pointer (some ⟨gb, 0, none⟩)) (grOf N E) := ⟨_, _, _, _, _, _, rfl, GM2.ga⟩
  have O02 : Old h0.size h0 h2 := O1.trans (O2.mono q1)
  have hEl := (mk_len hok).2.1
  have hNN : (grOf N E).N.length = N.length := srt_len N
  have hto : ∀ a b, (a, b) ∈ E ↔ b ∈ (grOf N E).to a := fun a b => (grOf_mem).symm
  clear GM2 hok
  generalize grOf N E = g at *
  simp only [ops P, nz0, bb, when_t, if_false, (eqP1 _ _).run]
  have hfew := w.few
  have wt := tRn w
  have sf : ∀ {g' : Gr}, g'.WF → SF (partsF g').length := fun {g'} w' => sf_all (by have := (partsF_PC w').len w'; omega)
  refine run_callF hb15 ((parts_spec G2 w (Nat.le_refl _) (fun _ => sf w) (fun _ h => sort0 h)).mono ?_)
  rintro lv h3 ⟨O3, xs, X3, PR⟩
  have q3 := O3.size
  have G3 := (G2.old O3 (Nat.le_refl _)).mono (m := h3.size) (by omega)
  refine run_callF hb10 ((turned0_spec G3 w (Nat.le_refl _)).mono ?_)
  rintro _ h4 ⟨O4, tb, rfl, GT4⟩
  have q4 := O4.size
  refine run_callF hb15 ((parts_spec GT4 wt (Nat.le_refl _) (fun _ => sf wt) (fun _ h => sort0 h)).mono ?_)
  rintro mv h5 ⟨O5, ys, Y5, PR'⟩
  have q5 := O5.size
  have hpq := parts_turned w PR PR'
  have hp : PC g (xs.map (·.2)) := (partsF_PC w).perm PR.perm
  have O35 : Old h3.size h3 h5 := O4.trans (O5.mono q4)
  have O05 : Old h0.size h0 h5 := O02.trans ((O3.mono (by omega)).trans (O35.mono (by omega)))
  have X5 := X3.keep O35 (Nat.le_refl _)
  have T5 := T.old O05 hn
  have S5 := S.old O05 hn
  have G5 := (G3.old O35 (Nat.le_refl _)).mono (m := h5.size) (by omega)
  have hsing := acyc_single w hp
  have hring := ring_acyc w
  have hflat := flat_len w hp
  refine parts_loop (nv := nv) (ev := ev) (gv := .pointer (some ⟨gb, 0, none⟩)) (lv := lv) (mv := mv) w hp rfl hpq.symm X5 Y5 (by omega) (by omega) T5 (by omega) hEl hto rfl rfl rfl rfl rfl rfl rfl rfl (Old.refl _ _) fun f h6 f0 f1 f5 f7 f8 f10 A6 O6 => ?_
  have q6 := O6.size
  have X6 := X5.keep O6 (Nat.le_refl _)
  have Y6 := Y5.keep O6 (Nat.le_refl _)
  have lx : xs.length = ys.length := by have := congrArg List.length hpq; simpa using this
  have hpl := hp.len w
  rw [List.length_map] at hpl
  generalize xs.map (·.2) = ps at *
  simp only [ex]
  unfold lParts_c1
  have G6 := (G5.old O6 (Nat.le_refl _)).mono (m := h6.size) (by omega)
  simp only [f5]
  refine run_callF hb19 ((order_spec G6 w (Nat.le_refl _)).mono ?_)
  rintro v7 h7 ⟨O7, ol, GR7, hrest, hord⟩
  have q7 := O7.size
  have horder := order_acyc w GR7 hrest
  have G7 := (G6.old O7 (Nat.le_refl _)).mono (m := h7.size) (by omega)
  -- the order, as a list and a number
  obtain ⟨ov, oe, ol', rfl, NO7, hoe⟩ : ∃ (ov : Value) (oe : Nat) (ol' : List Nat), v7 = .tuple #[ov, I oe] ∧ Nw h6.size h7 ov ol' ∧ ((Acyc g ∧ oe = 0 ∧ ol' = ol ∧ ol.length = g.N.length) ∨ (¬ Acyc g ∧ oe = 141 ∧ ol' = [])) := by
    rcases hord with ⟨h1, rfl⟩ | ⟨h1, ov, rfl, N⟩
    · exact ⟨_, 141, [], rfl, Nw.nil _ _, .inr ⟨fun ha => (horder.2 ha) h1, rfl, rfl⟩⟩
    · refine ⟨ov, 0, ol, rfl, N, .inl ⟨horder.1 h1, rfl, rfl, ?_⟩⟩
      have := len_le_of_nodup GR7.nodup GR7.sub
      omega
  simp only [ops P]
  refine run_callF hb20 ((ring_spec G7 w (Nat.le_refl _)).mono ?_)
  rintro _ h8 ⟨O8, rv, rfl, B8⟩
  have q8 := O8.size
  have NO8 := NO7.old O8
  have O68 : Old h6.size h6 h8 := O7.trans (O8.mono q7)
  have O58 : Old h5.size h5 h8 := O6.trans (O68.mono q6)
  have O08 : Old h0.size h0 h8 := O05.trans (O58.mono (by omega))
  have A8 := A6.old O68
  have X8 := X6.keep O68 (Nat.le_refl _)
  have Y8 := Y6.keep O68 (Nat.le_refl _)
  have S8 := S.old O08 hn
  have T8 := T.old O08 hn
  -- the ring, as a list
  obtain ⟨rl, hrl, NR⟩ : ∃ rl, rl = (ringF g).getD [] ∧ Nw h7.size h8 rv rl := by
    refine ⟨_, rfl, ?_⟩
    cases hr : ringF g with
    | none => rw [hr] at B8; have : rv = _ := B8; subst this; exact Nw.nil _ _
    | some r => rw [hr] at B8; exact B8.1
  have hrlen : rl.length ≤ 200000 := by
    rw [hrl]
    cases hr : ringF g with
    | none => simp
    | some r => rw [hr] at B8; exact B8.2.2
  obtain ⟨sb, hsb, hsa⟩ : ∃ sb : Bool, ps.all (sgl g) = sb ∧ (sb = true ↔ Acyc g) := ⟨_, rfl, sgl_iff.trans hsing⟩
  have hris : (ringF g).isSome = !sb := by
    cases hr : ringF g with
    | none => rw [hsa.2 (hring.1 hr)]; rfl
    | some r =>
      cases sb with
      | false => rfl
      | true => rw [hring.2 (hsa.1 rfl)] at hr; cases hr
  have hoe0 : ((oe : Int) == 0) = sb := by
    rcases hoe with ⟨ha, rfl, _⟩ | ⟨ha, rfl, _⟩
    · rw [hsa.2 ha]; rfl
    · cases sb with
      | false => rfl
      | true => exact absurd (hsa.1 rfl) ha
  have nn : ∀ x : Nat, ((x : Int) != (x : Int)) = false := fun x => by simp
  have eA : (ps.flatten.length : Int) = (N.length : Int) := by rw [hflat, hNN]
  have eX : (xs.length : Int) = (ys.length : Int) := by rw [lx]
  have b1 : (sb != sb) = false := by cases sb <;> rfl
  have b2 : ((!sb) == sb) = false := by cases sb <;> rfl
  have efl : (false == false) = true := rfl
  rw [hsb] at f10
  simp only [f0, f7, f8, f10, ops P, (A8.rs.len false).1, (S8.len false).1, (anyh (X8.lx false)).1, (anyh (Y8.lx false)).1, eA, eX, nn, hris, hoe0, bb, when_t, efl, if_false, (neB _ _ _).run, (eqB _ _ _).run, b1, b2]
  refine lp_up rl.length (fun j f h => f 0 = nv ∧ f 1 = ev ∧ f 13 = ov ∧ f 14 = I oe ∧ f 15 = rv ∧ f 17 = I j ∧ h = h8) ⟨f0, f1, rfl, rfl, rfl, rfl, rfl⟩ ?_
  clear f0 f1 f5 f7 f8 f10
  rintro j f h Q' hj ⟨f0, f1, f13, f14, f15, f17, rfl⟩ on out
  unfold lParts_L7
  simp only [f1, f15, f17, (NR.rs.len false).1, (NR.rs.len false).2, ops P, lt_R]
  by_cases hjl : j < rl.length
  · obtain ⟨x, hx⟩ : ∃ e, rl[j]? = some e := ⟨_, List.getElem?_eq_getElem hjl⟩
    have hml : (j + 1) % rl.length < rl.length := Nat.mod_lt _ (by omega)
    obtain ⟨y, hy⟩ : ∃ e, rl[(j + 1) % rl.length]? = some e := ⟨_, List.getElem?_eq_getElem hml⟩
    obtain ⟨a1, x1, x2, _⟩ := NR.rs.ax hx .i64
    obtain ⟨a2, y1, y2, _⟩ := NR.rs.ax hy .i64
    obtain ⟨r, hr, hrr⟩ : ∃ r, ringF g = some r ∧ rl = r := by
      cases hr : ringF g with
      | none => rw [hrl, hr] at hjl; simp at hjl
      | some r => exact ⟨r, rfl, by rw [hrl, hr]; rfl⟩
    clear hrl
    subst hrr
    obtain ⟨_, hnd, _, hed⟩ := ring_round w hr
    have hxy := hed j x y hx hy
    have hno := not_mem_take hnd hx
    obtain ⟨sv, sv1, sv2⟩ := NR.pre hjl
    rw [if_pos (by simpa using hjl)]
    have w1 : IntKind.i64.wrap ((j : Int) + 1) = ((j + 1 : Nat) : Int) := wInc (by omega)
    simp only [ops P, w1, (x1 h).still, load_still o41 x2, (remN (j + 1) rl.length (by omega) 3 false false h).still, (y1 h).still, load_still o41 y2]
    refine still_callF hb17 _ (edge_spec T8 (by omega) x y) ?_
    simp only [decide_eq_true ((hto x y).2 hxy), ops P, Bool.not_true, efl, bb, (sv1 h).still, (x1 h).still, load_still o41 x2]
    refine still_callF hb18 _ (has_spec sv2 (by rw [List.length_take]; omega) x) ?_
    simp only [decide_eq_false hno, ops P, bb, if_false]
    exact on _ _ hjl ⟨f0, f1, f13, f14, f15, rfl, rfl⟩
  rw [if_neg (by simpa using hjl)]
  refine out _ _ _ (by simp) ?_
  simp only [ex]
  unfold lParts_c2
  clear on out
  simp only [rdU, reduceIte, Nat.reduceEqDiff, f0, f1, f13, f14, (NO8.rs.len false).1, ops P]
  rcases hoe with ⟨ha, rfl, rfl, hol⟩ | ⟨ha, rfl, rfl⟩
  rotate_left
  · have e1 : (((141 : Nat) : Int) != 0) = true := rfl
    have e2 : (((([] : List Nat).length : Nat) : Int) == 0) = true := rfl
    simp only [e1, e2, if_true]
    exact post_ret1 ⟨rfl, O08⟩
  simp only [nz0, bb, if_false]
  refine lp_up ol'.length (fun j f h' => f 0 = nv ∧ f 1 = ev ∧ f 13 = ov ∧ f 18 = I j ∧ h' = h) ⟨f0, f1, f13, rfl, rfl⟩ ?_
  clear f0 f1 f13 f14 f15 f17
  rintro j f h Q' hj ⟨f0, f1, f13, f18, rfl⟩ on out
  unfold lParts_L4
  simp only [f13, f18, (NO8.rs.len false).1, ops P, lt_R]
  by_cases hjl : j < ol'.length
  · rw [if_pos (by simpa using hjl)]
    obtain ⟨x, hx⟩ : ∃ e, ol'[j]? = some e := ⟨_, List.getElem?_eq_getElem hjl⟩
    obtain ⟨a1, x1, x2, _⟩ := NO8.rs.ax hx .i64
    have hoN : ol'.length ≤ 4096 := by omega
    refine lp_up (j + 1) (fun k f h' => f 0 = nv ∧ f 1 = ev ∧ f 13 = ov ∧ f 18 = I j ∧ f 19 = I k ∧ h' = h) ⟨f0, f1, f13, f18, rfl, rfl⟩ ?_
    clear f0 f1 f13 f18
    rintro k f h Q2 hk ⟨f0, f1, f13, f18, f19, rfl⟩ on2 out2
    unfold lParts_L6
    simp only [f1, f13, f18, f19, ops P, le_R]
    by_cases hkj : k ≤ j
    · rw [if_pos (by simpa using hkj)]
      obtain ⟨y, hy⟩ : ∃ e, ol'[k]? = some e := ⟨_, List.getElem?_eq_getElem (by omega)⟩
      obtain ⟨a2, y1, y2, _⟩ := NO8.rs.ax hy .i64
      have hne : (x, y) ∉ E := fun he => by
        have := greedy_ahead w GR7 hx hy ((hto x y).1 he)
        omega
      simp only [(x1 h).still, load_still o41 x2, (y1 h).still, load_still o41 y2]
      refine still_callF hb17 _ (edge_spec T8 (by omega) x y) ?_
      simp only [decide_eq_false hne, ops P, bb, if_false]
      exact on2 _ _ (by omega) ⟨f0, f1, f13, f18, congrArg _ (wInc (by omega)), rfl⟩
    rw [if_neg (by simpa using hkj)]
    refine out2 _ _ _ (by simp) ?_
    simp only [ex]
    unfold lParts_c5
    simp only [rdU, reduceIte, Nat.reduceEqDiff, f18, ops P]
    exact on _ _ hjl ⟨f0, f1, f13, congrArg _ (wInc (by omega)), rfl⟩
  rw [if_neg (by simpa using hjl)]
  refine out _ _ _ (by simp) ?_
  simp only [ex]
  unfold lParts_c3
  have e3 : ((ol'.length : Int) == (N.length : Int)) = true := by rw [hol, hNN]; simp
  simp only [rdU, reduceIte, Nat.reduceEqDiff, f0, f13, (NO8.rs.len false).1, (S8.len false).1, ops P, e3]
  exact post_ret1 ⟨rfl, O08⟩
end Go.Proofs.G
