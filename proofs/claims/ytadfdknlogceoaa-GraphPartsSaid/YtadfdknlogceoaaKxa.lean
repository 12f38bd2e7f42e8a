import Derived.Test.YtadfdknlogceoaaKw
import Derived.Test.YtadfdknlogceoaaKp
set_option linter.all false
namespace Go.Proofs.G
/-- what deep enters: the list itself, all that those lead to; nothing else -/
theorem deepF_cl {g : Gr} (w : g.WF) : ∀ (k : Nat) (fr e : List Nat), freeN g e ≤ k → (∀ x ∈ fr, x ∈ g.N) → e.Nodup → (∀ x ∈ e, x ∈ g.N) →
    (∀ x ∈ fr, x ∈ (deepF g (k + 1) fr e).1) ∧ ∀ x ∈ (deepF g (k + 1) fr e).1, x ∉ e → (∀ y ∈ g.to x, y ∈ (deepF g (k + 1) fr e).1) ∧ ∃ a ∈ fr, ∃ d, Way g 0 a x d := by
  intro k
  induction k using Nat.strongRecOn with
  | _ k ih =>
    intro fr e hk hfr hen hes
    rw [deepF_succ]
    have key : ∀ (l2 l1 : List Nat) (s : List Nat × List Nat), (∀ x ∈ l1 ++ l2, x ∈ g.N) → DeepOk g e s → ((∀ x ∈ l1, x ∈ s.1) ∧ ∀ x ∈ s.1, x ∉ e → (∀ y ∈ g.to x, y ∈ s.1) ∧ ∃ a ∈ l1, ∃ d, Way g 0 a x d) →
        (∀ x ∈ l1 ++ l2, x ∈ (l2.foldl (deepS g k) s).1) ∧ ∀ x ∈ (l2.foldl (deepS g k) s).1, x ∉ e → (∀ y ∈ g.to x, y ∈ (l2.foldl (deepS g k) s).1) ∧ ∃ a ∈ l1 ++ l2, ∃ d, Way g 0 a x d := by
      intro l2
      induction l2 with
      | nil => intro l1 s _ _ h; simpa using h
      | cons n l2 ihl =>
        intro l1 s hN ok h
        have hnN : n ∈ g.N := hN n (by simp)
        have e1 : l1 ++ n :: l2 = (l1 ++ [n]) ++ l2 := by simp
        rw [List.foldl_cons, e1]
        refine ihl (l1 ++ [n]) _ (by rw [← e1]; exact hN) ?_ ?_
        · have := deepF_ok w (k + 1) [n] s.1 (by simpa using hnN) ok.nodup ok.sub
          unfold deepS
          split
          · exact ok
          · rename_i hne
            have hnn : (s.1 ++ [n]).Nodup := List.nodup_append.2 ⟨ok.nodup, by simp, fun a ha b hb => by simp at hb; subst hb; intro e; subst e; exact hne ha⟩
            have hss : ∀ x ∈ s.1 ++ [n], x ∈ g.N := fun x hx => by
              rcases List.mem_append.1 hx with hx | hx
              · exact ok.sub x hx
              · simp at hx; subst hx; exact hnN
            have r := deepF_ok w k (g.to n) (s.1 ++ [n]) (fun x hx => w.sub _ _ hx) hnn hss
            obtain ⟨m, hm, hp⟩ := ok.pre
            obtain ⟨m', hm', hp'⟩ := r.pre
            refine ⟨r.nodup, r.sub, m ++ ([n] ++ m'), ?_, ?_⟩
            · rw [hm', hm]; simp
            · rw [List.append_assoc]
              refine hp.append ?_
              exact (List.perm_append_comm).trans ((List.Perm.refl [n]).append hp')
        · unfold deepS
          by_cases hin : n ∈ s.1
          · rw [if_pos hin]
            refine ⟨fun x hx => ?_, fun x hx he => ⟨(h.2 x hx he).1, ?_⟩⟩
            · rcases List.mem_append.1 hx with hx | hx
              · exact h.1 x hx
              · simp at hx; subst hx; exact hin
            · obtain ⟨a, ha, d, wy⟩ := (h.2 x hx he).2
              exact ⟨a, by simp [ha], d, wy⟩
          · rw [if_neg hin]
            have hnn : (s.1 ++ [n]).Nodup := List.nodup_append.2 ⟨ok.nodup, by simp, fun a ha b hb => by simp at hb; subst hb; intro e; subst e; exact hin ha⟩
            have hss : ∀ x ∈ s.1 ++ [n], x ∈ g.N := fun x hx => by
              rcases List.mem_append.1 hx with hx | hx
              · exact ok.sub x hx
              · simp at hx; subst hx; exact hnN
            have hlt := freeN_lt hnN hin
            obtain ⟨mm, hm1, hm2⟩ := ok.pre
            have hle : freeN g s.1 ≤ freeN g e := freeN_le fun y hy => by rw [hm1]; exact List.mem_append_left _ hy
            obtain ⟨k', rfl⟩ : ∃ k', k = k' + 1 := ⟨k - 1, by omega⟩
            have r1 := ih k' (Nat.lt_succ_self _) (g.to n) (s.1 ++ [n]) (by omega) (fun y hy => w.sub _ _ hy) hnn hss
            have ok3 := deepF_ok w (k' + 1) (g.to n) (s.1 ++ [n]) (fun y hy => w.sub _ _ hy) hnn hss
            obtain ⟨m3, h3, _⟩ := ok3.pre
            have hup : ∀ x ∈ s.1 ++ [n], x ∈ (deepF g (k' + 1) (g.to n) (s.1 ++ [n])).1 := fun x hx => by rw [h3]; exact List.mem_append_left _ hx
            refine ⟨fun x hx => ?_, fun x hx he => ?_⟩
            · rcases List.mem_append.1 hx with hx | hx
              · exact hup x (List.mem_append_left _ (h.1 x hx))
              · exact hup x (List.mem_append_right _ hx)
            · by_cases hxs : x ∈ s.1
              · obtain ⟨a, ha, d, wy⟩ := (h.2 x hxs he).2
                exact ⟨fun y hy => hup y (List.mem_append_left _ ((h.2 x hxs he).1 y hy)), a, by simp [ha], d, wy⟩
              · by_cases hxn : x = n
                · subst hxn
                  exact ⟨r1.1, x, by simp, 0, .nil fun e0 => w.pos (e0 ▸ hnN)⟩
                · obtain ⟨q1, a, ha, d, wy⟩ := r1.2 x hx (by simp [hxs, hxn])
                  exact ⟨q1, n, by simp, d + 1, wy.cons (fun e0 => w.pos (e0 ▸ hnN)) ha⟩
    have := key fr [] (e, []) (by simpa using hfr) (.refl hen hes) ⟨fun x hx => by simp at hx, fun x hx he => absurd hx he⟩
    simpa using this
/-- from nothing: just those that are reached -/
theorem deepF_reach {g : Gr} (w : g.WF) {k : Nat} {us : List Nat} (hk : freeN g [] ≤ k) (hu : ∀ x ∈ us, x ∈ g.N) :
    (∀ x, x ∈ (deepF g (k + 1) us []).1 ↔ x ∈ reachF g us) ∧ (deepF g (k + 1) us []).1.length = (reachF g us).length ∧ (deepF g (k + 1) us []).2.Perm (deepF g (k + 1) us []).1 := by
  have ok := deepF_ok w (k + 1) us [] hu List.nodup_nil (by simp)
  have cl := deepF_cl w k us [] hk hu List.nodup_nil (by simp)
  have hm : ∀ x, x ∈ (deepF g (k + 1) us []).1 ↔ x ∈ reachF g us := fun x => by
    unfold reachF
    rw [srt_mem, reachF_mem w hu]
    constructor
    · exact fun h => (cl.2 x h (by simp)).2
    · rintro ⟨a, ha, d, wy⟩
      induction wy with
      | nil _ => exact cl.1 a ha
      | snoc _ h1 _ ihw => exact (cl.2 _ ihw (by simp)).1 _ h1
  refine ⟨hm, ?_, ?_⟩
  · exact Nat.le_antisymm (len_le_of_nodup ok.nodup fun x hx => (hm x).1 hx) (len_le_of_nodup (reachF_nodup w hu) fun x hx => (hm x).2 hx)
  · obtain ⟨m, h1, h2⟩ := ok.pre
    rw [h1, List.nil_append]; exact h2
end Go.Proofs.G
