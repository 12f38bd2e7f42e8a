import Derived.Test.YtadfdknlogceoaaKo
import Derived.Test.YtadfdknlogceoaaKp
import Derived.Test.YtadfdknlogceoaaKs
set_option linter.all false
namespace Go.Proofs.G
/-- the ring of an edge from n to t -/
structure RingOf (g : Gr) (r : List Nat) (n t d : Nat) : Prop where
  nN : n ∈ g.N
  ed : t ∈ g.to n
  ds : dist g t n = some d
  ex : ∃ w, Short g t n d w ∧ r = n :: w.dropLast
theorem RingOf.len {g : Gr} {r : List Nat} {n t d : Nat} (R : RingOf g r n t d) : r.length = d + 1 := by
  obtain ⟨w, s, rfl⟩ := R.ex
  simp [s.len]
/-- the best of the edges S -/
structure RInv (g : Gr) (S : Nat → Nat → Prop) (best : Option (List Nat)) : Prop where
  no : best = none → ∀ n t, S n t → dist g t n = none
  so : ∀ r, best = some r → (∃ n t d, RingOf g r n t d) ∧ ∀ n t d, S n t → dist g t n = some d → r.length ≤ d + 1
theorem RInv.step {g : Gr} (G : g.WF) {S : Nat → Nat → Prop} {best : Option (List Nat)} (I : RInv g S best) {n t : Nat} (hn : n ∈ g.N) (ht : t ∈ g.to n) : RInv g (fun a b => S a b ∨ (a = n ∧ b = t)) (ringS g (farL (trn g) [n] 0) n best t) := by
  have htN := G.sub _ _ ht
  unfold ringS
  cases hd : dOf (farL (trn g) [n] 0) t with
  | none =>
    have hd : dist g t n = none := hd
    refine ⟨fun h a b hs => ?_, fun r h => ⟨(I.so r h).1, fun a b d hs he => ?_⟩⟩
    · rcases hs with hs | ⟨rfl, rfl⟩
      · exact I.no h a b hs
      · exact hd
    · rcases hs with hs | ⟨rfl, rfl⟩
      · exact (I.so r h).2 a b d hs he
      · rw [hd] at he; cases he
  | some d =>
    have hd : dist g t n = some d := hd
    show RInv g _ (ringB (n :: (pathF g (farL (trn g) [n] 0) d [t]).dropLast) best)
    have hs : Short g t n d (pathF g (farL (trn g) [n] 0) d [t]) := by
      refine pathF_short G hn d [t] (by simp; omega) (by simp) (fun i x hi => ?_) (fun i x y hi hj => ?_) rfl
      · cases i with
        | zero => simp at hi; subst hi; exact ⟨htN, hd⟩
        | succ i => simp at hi
      · simp at hj
    have hR : RingOf g (n :: (pathF g (farL (trn g) [n] 0) d [t]).dropLast) n t d := ⟨hn, ht, hd, _, hs, rfl⟩
    have hlen := hR.len
    generalize n :: (pathF g (farL (trn g) [n] 0) d [t]).dropLast = r at *
    cases best with
    | none =>
      refine ⟨fun h => (by cases h), fun r' h => ?_⟩
      have : r = r' := by simpa [ringB] using h
      subst this
      refine ⟨⟨_, _, _, hR⟩, fun a b d' hs' he => ?_⟩
      rcases hs' with hs' | ⟨rfl, rfl⟩
      · rw [I.no rfl a b hs'] at he; cases he
      · rw [hd] at he; cases he; omega
    | some b0 =>
      obtain ⟨hb1, hb2⟩ := I.so b0 rfl
      simp only [ringB]
      split
      · rename_i hc
        refine ⟨fun h => (by cases h), fun r' h => ?_⟩
        cases h
        refine ⟨⟨_, _, _, hR⟩, fun a b d' hs' he => ?_⟩
        rcases hs' with hs' | ⟨rfl, rfl⟩
        · have := hb2 a b d' hs' he; omega
        · rw [hd] at he; cases he; omega
      · rename_i hc
        refine ⟨fun h => (by cases h), fun r' h => ?_⟩
        cases h
        refine ⟨hb1, fun a b d' hs' he => ?_⟩
        rcases hs' with hs' | ⟨rfl, rfl⟩
        · exact hb2 a b d' hs' he
        · rw [hd] at he; cases he; omega
theorem RInv.congr {g : Gr} {S S' : Nat → Nat → Prop} {best : Option (List Nat)} (I : RInv g S best) (h : ∀ a b, S' a b → S a b) : RInv g S' best :=
  ⟨fun e a b hs => I.no e a b (h a b hs), fun r e => ⟨(I.so r e).1, fun a b d hs => (I.so r e).2 a b d (h a b hs)⟩⟩
theorem ringF_inv {g : Gr} (G : g.WF) : RInv g (fun n t => n ∈ g.N ∧ t ∈ g.to n) (ringF g) := by
  have inner : ∀ (n : Nat), n ∈ g.N → ∀ (ts : List Nat), (∀ t ∈ ts, t ∈ g.to n) → ∀ (S : Nat → Nat → Prop) (best : Option (List Nat)), RInv g S best →
      RInv g (fun a b => S a b ∨ (a = n ∧ b ∈ ts)) (ts.foldl (ringS g (farL (trn g) [n] 0) n) best) := by
    intro n hn ts
    induction ts with
    | nil => intro _ S best I; exact I.congr fun a b h => by rcases h with h | ⟨_, h⟩; exact h; cases h
    | cons t ts ih =>
      intro hts S best I
      refine (ih (fun t ht => hts t (List.mem_cons_of_mem _ ht)) _ _ (I.step G hn (hts t (by simp)))).congr fun a b h => ?_
      rcases h with h | ⟨rfl, h⟩
      · exact .inl (.inl h)
      · rcases List.mem_cons.1 h with rfl | h
        · exact .inl (.inr ⟨rfl, rfl⟩)
        · exact .inr ⟨rfl, h⟩
  have outer : ∀ (ns : List Nat), (∀ n ∈ ns, n ∈ g.N) → ∀ (S : Nat → Nat → Prop) (best : Option (List Nat)), RInv g S best → RInv g (fun a b => S a b ∨ (a ∈ ns ∧ b ∈ g.to a)) (ns.foldl (ringN g) best) := by
    intro ns
    induction ns with
    | nil => intro _ S best I; exact I.congr fun a b h => by rcases h with h | ⟨h, _⟩; exact h; cases h
    | cons n ns ih =>
      intro hns S best I
      refine (ih (fun m hm => hns m (List.mem_cons_of_mem _ hm)) _ _ (inner n (hns n (by simp)) (g.to n) (fun t ht => ht) S best I)).congr fun a b h => ?_
      rcases h with h | ⟨h, h'⟩
      · exact .inl (.inl h)
      · rcases List.mem_cons.1 h with rfl | h
        · exact .inl (.inr ⟨rfl, h'⟩)
        · exact .inr ⟨h, h'⟩
  exact (outer g.N (fun n hn => hn) (fun _ _ => False) none ⟨fun _ _ _ h => h.elim, fun r h => (by cases h)⟩).congr fun a b h => .inr h
/-- no edge's way back is shorter -/
theorem ring_least {g : Gr} (G : g.WF) {a b d : Nat} (ha : a ∈ g.N) (hb : b ∈ g.to a) (hd : dist g b a = some d) : ∃ r, ringF g = some r ∧ r.length ≤ d + 1 := by
  have I := ringF_inv G
  cases h : ringF g with
  | none => rw [I.no h a b ⟨ha, hb⟩] at hd; cases hd
  | some r => exact ⟨r, rfl, (I.so r h).2 a b d ⟨ha, hb⟩ hd⟩
/-- the ring goes round -/
theorem ring_round {g : Gr} (G : g.WF) {r : List Nat} (h : ringF g = some r) : 0 < r.length ∧ r.Nodup ∧ (∀ x ∈ r, x ∈ g.N) ∧ ∀ i x y, r[i]? = some x → r[(i + 1) % r.length]? = some y → y ∈ g.to x := by
  obtain ⟨⟨n, t, d, R⟩, _⟩ := (ringF_inv G).so r h
  have hlen := R.len
  obtain ⟨w, s, rfl⟩ := R.ex
  have hwl := s.len
  have hlast := s.last G R.nN
  have hr : ∀ i, i < d → (n :: w.dropLast)[i + 1]? = w[i]? := fun i hi => by
    rw [List.getElem?_cons_succ, List.getElem?_dropLast, if_pos (by omega)]
  have far : ∀ i x, i < d → w[i]? = some x → x ≠ n := fun i x hi hx e => by
    have := (s.far i x hx).2
    subst e
    have h0 : dist g x x = some 0 := (dist_iff G R.nN R.nN).2 ⟨.nil (fun e => G.pos (e ▸ R.nN)), fun _ _ => Nat.zero_le _⟩
    rw [h0] at this; simp at this; omega
  refine ⟨by omega, ?_, ?_, ?_⟩
  · rw [List.nodup_cons]
    constructor
    · intro hm
      obtain ⟨i, hi, he⟩ := List.mem_iff_getElem.1 hm
      rw [List.length_dropLast] at hi
      rw [List.getElem_dropLast] at he
      exact far i n (by omega) (by rw [List.getElem?_eq_getElem (by omega), he]) rfl
    · rw [List.nodup_iff_pairwise_ne, List.pairwise_iff_getElem]
      intro i j hi hj hij he
      rw [List.length_dropLast] at hi hj
      rw [List.getElem_dropLast, List.getElem_dropLast] at he
      have h1 := (s.far i w[i] (List.getElem?_eq_getElem (by omega))).2
      have h2 := (s.far j w[j] (List.getElem?_eq_getElem (by omega))).2
      rw [he, h2] at h1
      simp at h1; omega
  · intro x hx
    rcases List.mem_cons.1 hx with rfl | hx
    · exact R.nN
    · obtain ⟨i, hi, he⟩ := List.mem_iff_getElem.1 ((List.dropLast_sublist _).subset hx)
      exact (s.far i x (by rw [List.getElem?_eq_getElem hi, he])).1
  · intro i x y hx hy
    have hi : i < d + 1 := by have := (List.getElem?_eq_some_iff.1 hx).1; omega
    rw [hlen] at hy
    by_cases hid : i = d
    · subst hid
      rw [Nat.mod_self] at hy
      simp at hy; subst hy
      cases i with
      | zero =>
        simp at hx; subst hx
        have e1 := s.head
        rw [hlast] at e1; cases e1
        exact R.ed
      | succ i =>
        rw [hr i (by omega)] at hx
        exact s.step i x n hx hlast
    · rw [Nat.mod_eq_of_lt (by omega), hr i (by omega)] at hy
      cases i with
      | zero =>
        simp at hx; subst hx
        have e1 := s.head
        rw [e1] at hy; cases hy
        exact R.ed
      | succ i =>
        rw [hr i (by omega)] at hx
        exact s.step i x y hx hy
/-- from each node of the ring it is as long -/
theorem ring_far {g : Gr} (G : g.WF) {r : List Nat} (h : ringF g = some r) {i x y : Nat} (hx : r[i]? = some x) (hy : r[(i + 1) % r.length]? = some y) : dist g y x = some (r.length - 1) := by
  obtain ⟨hpos, hnd, hN, hst⟩ := ring_round G h
  have hL := @ring_least g G
  generalize hl : r.length = L at *
  have get : ∀ j, ∃ z, r[j % L]? = some z := fun j => ⟨_, List.getElem?_eq_getElem (by rw [hl]; exact Nat.mod_lt _ hpos)⟩
  have way : ∀ m j a b, r[j % L]? = some a → r[(j + m) % L]? = some b → Way g 0 a b m := by
    intro m
    induction m with
    | zero =>
      intro j a b ha hb
      rw [Nat.add_zero] at hb
      rw [ha] at hb; cases hb
      exact .nil fun e => G.pos (e ▸ hN a (List.mem_of_getElem? ha))
    | succ m ih =>
      intro j a b ha hb
      obtain ⟨c, hc⟩ := get (j + m)
      have w := ih j a c ha hc
      refine .snoc w (hst _ c b hc ?_) fun e => G.pos (e ▸ hN b (List.mem_of_getElem? hb))
      rw [← hb]; congr 1
      rw [Nat.mod_add_mod, Nat.add_assoc]
  have hi : i < L := by rw [← hl]; exact (List.getElem?_eq_some_iff.1 hx).1
  have hxN := hN x (List.mem_of_getElem? hx)
  have hyN := hN y (List.mem_of_getElem? hy)
  have w := way (L - 1) (i + 1) y x hy (by rw [show i + 1 + (L - 1) = i + L by omega, Nat.add_mod_right, Nat.mod_eq_of_lt hi]; exact hx)
  obtain ⟨e, he, hd⟩ := dist_le G hyN hxN w
  obtain ⟨r', hr', hle⟩ := hL hxN (hst i x y hx hy) hd
  rw [h] at hr'; cases hr'
  rw [hd]; congr 1; omega
end Go.Proofs.G
open Go Go.Hv
set_option maxRecDepth 100000
namespace Go.Proofs.G
theorem hb17 : hasBody P 17 = true := by kernel_rfl
theorem hb18 : hasBody P 18 = true := by kernel_rfl
/-- an answer in any heap, in the ways of reading -/
theorem anyh {P : Program} {x : X} {v : Value} (e : ∀ h, Ans P x v h) : (∀ K h, run P x K h = K v h) ∧ (∀ K h, headq P x K h = K v) ∧ (∀ K, tf P x K = K v) := ⟨fun K h => (e h).run K, fun K h => (e h).headq K, fun K => Ans.tf e K⟩
theorem Rs.ax {n : Nat} {h : Heap} {v : Value} {l : List Nat} (s : Rs n h v l) {i x : Nat} (hx : l[i]? = some x) (k : IntKind) :
    ∃ a : Addr, (∀ h', Ans P (.indexAddr 22 v (.int k i)) (.pointer (some a)) h') ∧ cell h a = some (R x) ∧ a.block < n := by
  obtain ⟨a, a1, a2, a3⟩ := s.sl.index s22 (k := k) (i := i) (x := R x) (by rw [List.getElem?_map, hx]; rfl)
  exact ⟨a, a1, a2, s.bl _ a3⟩
theorem Rs.lx {n : Nat} {h : Heap} {v : Value} {l : List Nat} (s : Rs n h v l) (c : Bool) : ∀ h', Ans P (.builtin .len #[22] 3 [c] [v]) (I l.length) h' := by
  intro h'
  obtain ⟨ao, cc, rfl, _⟩ := s.sl
  have := ans_lenSlice (P := P) s22 (ty := 3) (c := c) (a := ao) (n := (l.map R).length) (k := cc) (h := h')
  have e : (I (l.map R).length) = I l.length := by rw [List.length_map]
  rw [← e]; exact this
theorem Ed.ax {n : Nat} {h : Heap} {v : Value} {l : List (Nat × Nat)} (s : Ed n h v l) {i x y : Nat} (hx : l[i]? = some (x, y)) :
    ∃ b o, (∀ h', Ans P (.indexAddr 23 v (I i)) (.pointer (some ⟨b, o, none⟩)) h') ∧ cell h ⟨b, o, none⟩ = some (R x) ∧ cell h ⟨b, o + 1, none⟩ = some (R y) ∧ b < n := by
  obtain ⟨ao, c, rfl, h1, h2⟩ := s.ex
  obtain ⟨a, rfl, c1, c2⟩ := h2 i x y hx
  obtain ⟨hs, hb⟩ := h1 a rfl
  obtain ⟨b, o, sp⟩ := a
  simp only at hs hb c1 c2
  subst hs
  have hi : i < l.length := (List.getElem?_eq_some_iff.1 hx).1
  refine ⟨b, o + i * 2, fun h' => ?_, c1, c2, hb⟩
  have := ans_indexAddr (P := P) s23 (a := ⟨b, o, none⟩) (len := l.length) (cap := c) (k := .i64) (i := (i : Int)) (by omega) (by omega) (h := h')
  rw [Int.toNat_natCast, Addr.add_add0] at this
  exact this
theorem fa57 (b o : Nat) : (∀ h, Ans P (.fieldAddr 57 (.pointer (some ⟨b, o, none⟩)) 0) (.pointer (some ⟨b, o, none⟩)) h) ∧ (∀ h, Ans P (.fieldAddr 57 (.pointer (some ⟨b, o, none⟩)) 1) (.pointer (some ⟨b, o + 1, none⟩)) h) := by
  constructor
  · intro h; have := ans_fieldAddr (P := P) f57_0 (a := ⟨b, o, none⟩) (h := h); rwa [Addr.add_add0] at this
  · intro h; have := ans_fieldAddr (P := P) f57_1 (a := ⟨b, o, none⟩) (h := h); rwa [Addr.add_add0] at this
/-- edge: is there that edge? -/
theorem edge_spec {n : Nat} {h0 : Heap} {v : Value} {l : List (Nat × Nat)} (S : Ed n h0 v l) (hl : l.length < 4611686018427387904) (a b : Nat) :
    HCalls P 17 #[v, R a, R b] h0 fun u h' => u = .bool (decide ((a, b) ∈ l)) ∧ h' = h0 := by
  refine edge_ok ?_
  unfold edge_c0
  refine lp_up l.length (fun j f h => f 0 = v ∧ f 1 = R a ∧ f 2 = R b ∧ f 7 = I j ∧ (a, b) ∉ l.take j ∧ h = h0) ⟨rfl, rfl, rfl, rfl, by simp, rfl⟩ ?_
  rintro j f h Q' hj ⟨f0, f1, f2, f7, hno, rfl⟩ on out
  unfold edge_L2
  simp only [f0, f1, f2, f7, S.len false, ops P, lt_R]
  by_cases hjl : j < l.length
  · obtain ⟨⟨x, y⟩, hx⟩ : ∃ e, l[j]? = some e := ⟨_, List.getElem?_eq_getElem hjl⟩
    obtain ⟨b', o, a1, c1, c2, _⟩ := S.ax hx
    have a2 := (anyh a1).1
    have g0 := (anyh (fa57 b' o).1).1
    have g1 := (anyh (fa57 b' o).2).1
    rw [if_pos (by simpa using hjl)]
    simp only [a2, g0, load_run o41 c1, ops P, beq_R]
    have next : ∀ f', f' 0 = v → f' 1 = R a → f' 2 = R b → f' 7 = I (j + 1) → ¬ (x = a ∧ y = b) → Q' .normal f' h := fun f' g0 g1 g2 g7 hne => on _ _ hjl ⟨g0, g1, g2, g7, fun hm => by
      rw [take_at hx] at hm
      rcases List.mem_append.1 hm with hm | hm
      · exact hno hm
      · simp at hm; exact hne ⟨hm.1.symm, hm.2.symm⟩, rfl⟩
    by_cases hxa : x = a
    · simp only [decide_eq_true hxa, bb, when_t, ops P, a2, g1, load_run o41 c2, beq_R, if_true]
      by_cases hyb : y = b
      · simp only [decide_eq_true hyb, if_true]
        refine out _ _ _ (by simp) ?_
        simp only [ex]
        refine post_ret1 ⟨?_, rfl⟩
        have : (a, b) ∈ l := by rw [← hxa, ← hyb]; exact List.mem_of_getElem? hx
        rw [decide_eq_true this]; rfl
      · simp only [decide_eq_false hyb, bb, if_false]
        exact next _ f0 f1 f2 (congrArg _ (wInc (by omega))) fun h => hyb h.2
    · simp only [decide_eq_false hxa, bb, when_f, ops P, if_false]
      exact next _ f0 f1 f2 (congrArg _ (wInc (by omega))) fun h => hxa h.1
  · rw [if_neg (by simpa using hjl)]
    refine out _ _ _ (by simp) ?_
    simp only [ex]
    unfold edge_c1
    rw [List.take_of_length_le (by omega)] at hno
    refine post_ret1 ⟨?_, rfl⟩
    rw [decide_eq_false hno]; rfl
/-- Has: has a list a node? -/
theorem has_spec {n : Nat} {h0 : Heap} {v : Value} {l : List Nat} (S : Rs n h0 v l) (hl : l.length < 4611686018427387904) (a : Nat) :
    HCalls P 18 #[v, R a] h0 fun u h' => u = .bool (decide (a ∈ l)) ∧ h' = h0 := by
  refine has_ok ?_
  unfold has_c0
  refine lp_up l.length (fun j f h => f 0 = v ∧ f 1 = R a ∧ f 5 = I j ∧ a ∉ l.take j ∧ h = h0) ⟨rfl, rfl, rfl, by simp, rfl⟩ ?_
  rintro j f h Q' hj ⟨f0, f1, f5, hno, rfl⟩ on out
  unfold has_L2
  simp only [f0, f1, f5, (S.len false).1, ops P, lt_R]
  by_cases hjl : j < l.length
  · obtain ⟨x, hx⟩ : ∃ e, l[j]? = some e := ⟨_, List.getElem?_eq_getElem hjl⟩
    obtain ⟨q, a1, _, a2, _, _⟩ := S.at hx .i64
    rw [if_pos (by simpa using hjl), a1, load_run o41 a2]
    simp only [ops P, beq_R]
    by_cases hxa : x = a
    · simp only [decide_eq_true hxa, if_true]
      refine out _ _ _ (by simp) ?_
      simp only [ex]
      refine post_ret1 ⟨?_, rfl⟩
      have : a ∈ l := by rw [← hxa]; exact List.mem_of_getElem? hx
      rw [decide_eq_true this]; rfl
    · simp only [decide_eq_false hxa, bb, if_false]
      refine on _ _ hjl ⟨f0, f1, congrArg _ (wInc (by omega)), fun hm => ?_, rfl⟩
      rw [take_at hx] at hm
      rcases List.mem_append.1 hm with hm | hm
      · exact hno hm
      · simp at hm; exact hxa hm.symm
  · rw [if_neg (by simpa using hjl)]
    refine out _ _ _ (by simp) ?_
    simp only [ex]
    unfold has_c1
    rw [List.take_of_length_le (by omega)] at hno
    refine post_ret1 ⟨?_, rfl⟩
    rw [decide_eq_false hno]; rfl
end Go.Proofs.G
