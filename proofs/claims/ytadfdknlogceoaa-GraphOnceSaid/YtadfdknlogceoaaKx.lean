import Derived.Defers
import Derived.Test.YtadfdknlogceoaaKw
import Derived.Test.YtadfdknlogceoaaKp
import Derived.Test.YtadfdknlogceoaaKc
import Derived.Test.YtadfdknlogceoaaKd
import Derived.Test.YtadfdknlogceoaaKt
import Derived.Test.YtadfdknlogceoaaKo
import Derived.Test.YtadfdknlogceoaaKv
set_option linter.all false
namespace Go.Proofs.G
/-- what deep enters: the list itself, all that those lead to; nothing else -/
theorem deepF_cl {g : Gr} (w : g.WF) : ∀ (k : Nat) (fr e : List Nat), freeN g e ≤ k → (∀ x ∈ fr, x ∈ g.N) → e.Nodup → (∀ x ∈ e, x ∈ g.N) →
    (∀ x ∈ fr, x ∈ (deepF g (k + 1) fr e).1) ∧ ∀ x ∈ (deepF g (k + 1) fr e).1, x ∉ e → (∀ y ∈ g.to x, y ∈ (deepF g (k + 1) fr e).1) ∧ ∃ a ∈ fr, ∃ d, Way g 0 a x d := by
  intro k
  induction k using Nat.strongRecOn with
  | _ k ih =>
    intro fr e hk hfr hen hes
    rw [deepF_succ]
    have key : ∀ (l2 l1 : List Nat) (s : List Nat × List Nat), (∀ x ∈ l1 ++ l2, x ∈ g.N) → DeepOk g e s → ((∀ x ∈ l1, x ∈ s.1) ∧ ∀ x ∈ s.1, x ∉ e → (∀ y ∈ g.to x, y ∈ s.1) ∧ ∃ a ∈ l1, ∃ d, Way g 0 a x d) →
        (∀ x ∈ l1 ++ l2, x ∈ (l2.foldl (deepS g k) s).1) ∧ ∀ x ∈ (l2.foldl (deepS g k) s).1, x ∉ e → (∀ y ∈ g.to x, y ∈ (l2.foldl (deepS g k) s).1) ∧ ∃ a ∈ l1 ++ l2, ∃ d, Way g 0 a x d := by
      intro l2
      induction l2 with
      | nil => intro l1 s _ _ h; simpa using h
      | cons n l2 ihl =>
        intro l1 s hN ok h
        have hnN : n ∈ g.N := hN n (by simp)
        have e1 : l1 ++ n :: l2 = (l1 ++ [n]) ++ l2 := by simp
        rw [List.foldl_cons, e1]
        refine ihl (l1 ++ [n]) _ (by rw [← e1]; exact hN) ?_ ?_
        · have := deepF_ok w (k + 1) [n] s.1 (by simpa using hnN) ok.nodup ok.sub
          unfold deepS
          split
          · exact ok
          · rename_i hne
            have hnn : (s.1 ++ [n]).Nodup := List.nodup_append.2 ⟨ok.nodup, by simp, fun a ha b hb => by simp at hb; subst hb; intro e; subst e; exact hne ha⟩
            have hss : ∀ x ∈ s.1 ++ [n], x ∈ g.N := fun x hx => by
              rcases List.mem_append.1 hx with hx | hx
              · exact ok.sub x hx
              · simp at hx; subst hx; exact hnN
            have r := deepF_ok w k (g.to n) (s.1 ++ [n]) (fun x hx => w.sub _ _ hx) hnn hss
            obtain ⟨m, hm, hp⟩ := ok.pre
            obtain ⟨m', hm', hp'⟩ := r.pre
            refine ⟨r.nodup, r.sub, m ++ ([n] ++ m'), ?_, ?_⟩
            · rw [hm', hm]; simp
            · rw [List.append_assoc]
              refine hp.append ?_
              exact (List.perm_append_comm).trans ((List.Perm.refl [n]).append hp')
        · unfold deepS
          by_cases hin : n ∈ s.1
          · rw [if_pos hin]
            refine ⟨fun x hx => ?_, fun x hx he => ⟨(h.2 x hx he).1, ?_⟩⟩
            · rcases List.mem_append.1 hx with hx | hx
              · exact h.1 x hx
              · simp at hx; subst hx; exact hin
            · obtain ⟨a, ha, d, wy⟩ := (h.2 x hx he).2
              exact ⟨a, by simp [ha], d, wy⟩
          · rw [if_neg hin]
            have hnn : (s.1 ++ [n]).Nodup := List.nodup_append.2 ⟨ok.nodup, by simp, fun a ha b hb => by simp at hb; subst hb; intro e; subst e; exact hin ha⟩
            have hss : ∀ x ∈ s.1 ++ [n], x ∈ g.N := fun x hx => by
              rcases List.mem_append.1 hx with hx | hx
              · exact ok.sub x hx
              · simp at hx; subst hx; exact hnN
            have hlt := freeN_lt hnN hin
            obtain ⟨mm, hm1, hm2⟩ := ok.pre
            have hle : freeN g s.1 ≤ freeN g e := freeN_le fun y hy => by rw [hm1]; exact List.mem_append_left _ hy
            obtain ⟨k', rfl⟩ : ∃ k', k = k' + 1 := ⟨k - 1, by omega⟩
            have r1 := ih k' (Nat.lt_succ_self _) (g.to n) (s.1 ++ [n]) (by omega) (fun y hy => w.sub _ _ hy) hnn hss
            have ok3 := deepF_ok w (k' + 1) (g.to n) (s.1 ++ [n]) (fun y hy => w.sub _ _ hy) hnn hss
            obtain ⟨m3, h3, _⟩ := ok3.pre
            have hup : ∀ x ∈ s.1 ++ [n], x ∈ (deepF g (k' + 1) (g.to n) (s.1 ++ [n])).1 := fun x hx => by rw [h3]; exact List.mem_append_left _ hx
            refine ⟨fun x hx => ?_, fun x hx he => ?_⟩
            · rcases List.mem_append.1 hx with hx | hx
              · exact hup x (List.mem_append_left _ (h.1 x hx))
              · exact hup x (List.mem_append_right _ hx)
            · by_cases hxs : x ∈ s.1
              · obtain ⟨a, ha, d, wy⟩ := (h.2 x hxs he).2
                exact ⟨fun y hy => hup y (List.mem_append_left _ ((h.2 x hxs he).1 y hy)), a, by simp [ha], d, wy⟩
              · by_cases hxn : x = n
                · subst hxn
                  exact ⟨r1.1, x, by simp, 0, .nil fun e0 => w.pos (e0 ▸ hnN)⟩
                · obtain ⟨q1, a, ha, d, wy⟩ := r1.2 x hx (by simp [hxs, hxn])
                  exact ⟨q1, n, by simp, d + 1, wy.cons (fun e0 => w.pos (e0 ▸ hnN)) ha⟩
    have := key fr [] (e, []) (by simpa using hfr) (.refl hen hes) ⟨fun x hx => by simp at hx, fun x hx he => absurd hx he⟩
    simpa using this
/-- from nothing: just those that are reached -/
theorem deepF_reach {g : Gr} (w : g.WF) {k : Nat} {us : List Nat} (hk : freeN g [] ≤ k) (hu : ∀ x ∈ us, x ∈ g.N) :
    (∀ x, x ∈ (deepF g (k + 1) us []).1 ↔ x ∈ reachF g us) ∧ (deepF g (k + 1) us []).1.length = (reachF g us).length ∧ (deepF g (k + 1) us []).2.Perm (deepF g (k + 1) us []).1 := by
  have ok := deepF_ok w (k + 1) us [] hu List.nodup_nil (by simp)
  have cl := deepF_cl w k us [] hk hu List.nodup_nil (by simp)
  have hm : ∀ x, x ∈ (deepF g (k + 1) us []).1 ↔ x ∈ reachF g us := fun x => by
    unfold reachF
    rw [srt_mem, reachF_mem w hu]
    constructor
    · exact fun h => (cl.2 x h (by simp)).2
    · rintro ⟨a, ha, d, wy⟩
      induction wy with
      | nil _ => exact cl.1 a ha
      | snoc _ h1 _ ihw => exact (cl.2 _ ihw (by simp)).1 _ h1
  refine ⟨hm, ?_, ?_⟩
  · exact Nat.le_antisymm (len_le_of_nodup ok.nodup fun x hx => (hm x).1 hx) (len_le_of_nodup (reachF_nodup w hu) fun x hx => (hm x).2 hx)
  · obtain ⟨m, h1, h2⟩ := ok.pre
    rw [h1, List.nil_append]; exact h2
end Go.Proofs.G
namespace Go.Hv
/-! ### functions that defer -/
/-- the contract of a deferred call, nobody panicking -/
def HCallsD (P : Program) (g : FuncId) (args : Array Value) (h : Heap) (R : Value → Heap → Prop) : Prop :=
  ∀ E w, At E h w → CallsD P g args .returning w fun e u' w' => u' = .returning ∧ ∃ v h', e = .returned v ∧ At E h' w' ∧ R v h'
theorem fits0 {fn : Func} {args : Array Value} (hn : args.size ≤ fn.ntmps) : Fits fn.ntmps (frame0 args) { tmps := args ++ Array.replicate (fn.ntmps - args.size) undef, defers := [] } := by
  refine ⟨?_, ?_, rfl⟩
  · simp; omega
  · intro i
    simp only [frame0]
    by_cases hi : i < args.size
    · simp [Array.getD, hi]; intro h; omega
    · simp only [Array.getD, hi, dite_false]
      split
      · rename_i hlt
        simp [Array.getElem_append, hi]
      · rfl
theorem hcallsD_gen {P : Program} {g : FuncId} {fn : Func} {args : Array Value} {h : Heap} {R : Value → Heap → Prop} {md : Nat → RM} {top : (Exit → F → Heap → Prop) → F → Heap → Prop} {rs : List ResultVar} (hm : P.follows .mixedOrders = true)
    (hf : P.funcs[g]? = some fn) (hc : top = hcode P md (fn.body.getD .skip)) (hb : fn.body.isSome = true) (hn : Nat.ble args.size fn.ntmps = true) (hok : codeOk fn.ntmps md (fn.body.getD .skip) = true) (hrs : fn.results.toList = rs) (hr : resOk P rs = true)
    (hh : top (post rs R) (frame0 args) h) : HCallsD P g args h R := by
  subst hc; subst hrs
  obtain ⟨c, hb⟩ : ∃ c, fn.body = some c := by cases hbb : fn.body with | none => rw [hbb] at hb; simp at hb | some c => exact ⟨c, rfl⟩
  rw [hb] at hh hok
  intro E w ha
  refine callsD_of_wp hf hb ?_
  refine Code.wp_mono ?_ (hcode_sound (E := E) (n := fn.ntmps) hm c hok hh (fits0 (Nat.le_of_ble_eq_true hn)) ha)
  rintro e a w' ⟨f, h', hf', ha', hq⟩
  have hfin : ∀ rs, fn.results.toList = rs → fin R f h' rs → a.defers = [] ∧ ∃ v, (results fn a.tmps).run P w' = .ok v w' ∧ ∃ v' h', Ending.returned v = .returned v' ∧ At E h' w' ∧ R v' h' := by
    rintro rs rfl ⟨l, hl, hR⟩
    obtain ⟨rfl, h2, h3, h4⟩ := ha'
    exact ⟨hf'.defers, _, run_of_rd' (results_rd hf' hr hl), _, _, rfl, ⟨rfl, h2, h3, h4⟩, hR⟩
  cases e with
  | normal => exact hfin _ rfl hq
  | ret => exact hfin _ rfl hq
  | _ => exact hq.elim
/-- one operation, a 'defer' too -/
def stpD (P : Program) (f : F) (o : Oper) (K : List Deferred → Value → Heap → Prop) (ds : List Deferred) (h : Heap) : Prop :=
  match o.op with
  | .defer c => ∃ d, rd P (resolve (ev f) c o.type) h = some d ∧ K (d :: ds) undef h
  | _ => stp P (xop (ev f) o) (K ds) h
noncomputable def hopsD (P : Program) (ops : Array Oper) (Q : List Deferred → F → Heap → Prop) (l : List Oper) : List Deferred → F → Heap → Prop :=
  List.rec (motive := fun _ => List Deferred → F → Heap → Prop) (fun ds f h => Q ds f h)
    (fun o _ ih ds f h => match o.guard with
      | none => stpD P f o (fun ds' v h' => ih ds' (put f o.dst v) h') ds h
      | some _ => when (wants ops f o) (run P (xop (ev f) o)) (fun v h' => ih ds (put f o.dst v) h') h) l
theorem hopsD_cons (P : Program) (ops : Array Oper) (Q : List Deferred → F → Heap → Prop) (o : Oper) (rest : List Oper) (ds : List Deferred) (f : F) (h : Heap) : hopsD P ops Q (o :: rest) ds f h =
    match o.guard with
    | none => stpD P f o (fun ds' v h' => hopsD P ops Q rest ds' (put f o.dst v) h') ds h
    | some _ => when (wants ops f o) (run P (xop (ev f) o)) (fun v h' => hopsD P ops Q rest ds (put f o.dst v) h') h := rfl
def isDefer (o : Oper) : Bool := match o.op with | .defer _ => true | _ => false
def operOkD (n : Nat) (o : Oper) : Bool := dstOk n o.dst && (xopOk o || (isDefer o && o.guard.isNone))
def liftDD (E : Env) (n : Nat) (Q : Exit → List Deferred → F → Heap → Prop) (e : Exit) (a : Act) (w : World) : Prop := ∃ ds f h, FitsD ds n f a ∧ At E h w ∧ Q e ds f h
theorem FitsD.ylds {n : Nat} {f : F} {a : Act} (h : Fits n f { tmps := a.tmps, defers := [] }) {ops : Array Oper} (ho : ops.toList.all (fun o => dstOk n o.dst) = true) (j : Nat) : yielded ops a.tmps j = yl ops f j := by
  unfold yielded yl
  cases hj : (ops[j]?).bind (·.dst) with
  | none => simp
  | some d =>
    have hd : d < n := by
      cases hj' : ops[j]? with
      | none => simp [hj'] at hj
      | some o =>
        rw [hj'] at hj
        have hm : o ∈ ops.toList := by
          have := Array.mem_of_getElem? hj'
          simpa using this
        have h1 := List.all_eq_true.1 ho o hm
        simp only [Option.bind_some] at hj
        rw [hj] at h1
        simpa [dstOk] using h1
    have hget := h.get d
    have hlt : d < a.tmps.size := by have := h.size; simp only at this; rw [this]; exact hd
    simp only [Option.bind_some]
    rw [Array.getElem?_eq_getElem hlt]
    simp only [Array.getD, hlt, dite_true] at hget
    have hget' : a.tmps[d] = f d := hget
    rw [hget']
    cases f d <;> rfl
theorem FitsD.yields {ds : List Deferred} {n : Nat} {f : F} {a : Act} (h : FitsD ds n f a) {ops : Array Oper} (ho : ops.toList.all (fun o => dstOk n o.dst) = true) (o : Oper) : Region.wanted o (yielded ops a.tmps) = Hv.wants ops f o := by
  unfold Region.wanted Hv.wants
  cases o.guard with
  | none => rfl
  | some g =>
    obtain ⟨j, want⟩ := g
    simp only [FitsD.ylds h.fits ho, yl, gw]
    split <;> rfl
theorem hopsD_sound {P : Program} {ops : Array Oper} {n : Nat} {E : Env} {Q : Exit → List Deferred → F → Heap → Prop} (hall : ops.toList.all (fun o => dstOk n o.dst) = true) :
    ∀ (l : List Oper), l.all (operOkD n) = true → ∀ {ds f h a w}, hopsD P ops (Q .normal) l ds f h → FitsD ds n f a → At E h w → wpList P ops (liftDD E n Q) l a w := by
  intro l
  induction l with
  | nil => intro _ ds f h a w hh hf ha; exact ⟨ds, f, h, hf, ha, hh⟩
  | cons o rest ih =>
    intro hl ds f h a w hh hf ha
    simp only [List.all_cons, Bool.and_eq_true] at hl
    have hw := hf.yields hall o
    have ho := hl.1
    unfold operOkD at ho
    simp only [Bool.and_eq_true] at ho
    unfold wpList
    rw [hw]
    rw [hopsD_cons] at hh
    by_cases hdf : isDefer o = true
    · obtain ⟨c, hc⟩ : ∃ c, o.op = .defer c := by unfold isDefer at hdf; split at hdf; exact ⟨_, ‹_›⟩; cases hdf
      have hx : xopOk o = false := by unfold xopOk; rw [hc]
      have hg : o.guard = none := by
        have := ho.2
        rw [hx] at this
        simp only [Bool.false_or, Bool.and_eq_true, Option.isNone_iff_eq_none] at this
        exact this.2
      rw [hg] at hh
      simp only [wants, hg, if_true]
      simp only [stpD, hc] at hh
      obtain ⟨d, hr, hk⟩ := hh
      refine .inl ?_
      unfold Oper.wp
      have hrun : (execOp a.eval o).run P w = .ok (Next.defer d) w := by
        obtain ⟨rfl, _, _, _⟩ := ha
        refine run_of_rd' ?_
        unfold execOp
        rw [hc]
        simp only []
        show rd P (Sem.bind (resolve a.eval c o.type) fun d => Sem.pure (Next.defer d)) w.heap = _
        rw [rd_bind, hf.eval, hr]; rfl
      rw [hrun, Oper.upon_defer]
      refine ih hl.2 hk ?_ ha
      have hf2 : FitsD (d :: ds) n f { a with defers := d :: a.defers } := ⟨hf.fits, by rw [hf.defers]⟩
      exact hf2.put ho.1 _
    · have hx : xopOk o = true := by
        have := ho.2
        simpa [hdf] using this
      have hok : operOk n o = true := by unfold operOk; rw [ho.1, hx]; rfl
      have hh' : if wants ops f o then run P (xop (ev f) o) (fun v h' => hopsD P ops (Q .normal) rest ds (Hv.put f o.dst v) h') h else hopsD P ops (Q .normal) rest ds (Hv.put f o.dst undef) h := by
        have hst : ∀ K, stpD P f o K ds h = stp P (xop (ev f) o) (K ds) h := fun K => by
          unfold stpD
          split
          · rename_i c hc; exact absurd (by unfold isDefer; rw [hc]) hdf
          · rfl
        cases hg : o.guard with
        | none =>
          simp only [hg] at hh
          simp only [wants, hg, if_true]
          rw [hst] at hh
          exact stp_run hh
        | some g => simp only [hg] at hh; exact hh
      split
      · rename_i hwt
        rw [if_pos hwt] at hh'
        refine .inl (run_sound (E := E) (K := fun v h' => hopsD P ops (Q .normal) rest ds (Hv.put f o.dst v) h') ?_ ha ?_)
        · rw [hf.eval, ← operOk.xop hok f]; exact hh'
        · intro v h' w' ha' hk; exact ih hl.2 hk (hf.put ho.1 _) ha'
      · rename_i hwt
        rw [if_neg hwt] at hh'
        exact ih hl.2 hh' (hf.put ho.1 _) ha
def thenDD (K : List Deferred → F → Heap → Prop) (Q : Exit → List Deferred → F → Heap → Prop) : Exit → List Deferred → F → Heap → Prop
  | .normal, ds, f, h => K ds f h
  | e, ds, f, h => Q e ds f h
def inBD (id : Nat) (Q : Exit → List Deferred → F → Heap → Prop) : Exit → List Deferred → F → Heap → Prop
  | .exit id', ds, f, h => if id' = id then Q .normal ds f h else Q (.exit id') ds f h
  | e, ds, f, h => Q e ds f h
noncomputable def hcodeD (P : Program) (c : Code) : (Exit → List Deferred → F → Heap → Prop) → List Deferred → F → Heap → Prop :=
  Code.rec (motive := fun _ => (Exit → List Deferred → F → Heap → Prop) → List Deferred → F → Heap → Prop)
    (fun Q ds f h => Q .normal ds f h)
    (fun _ ops draw Q ds f h => match draw with | false => hopsD P ops (Q .normal) ops.toList ds f h | true => False)
    (fun _ _ A B Q ds f h => A (thenDD (B Q) Q) ds f h)
    (fun c _ _ A B Q ds f h => br (ev f c) (A Q ds f h) (B Q ds f h))
    (fun id _ A Q ds f h => A (inBD id Q) ds f h)
    (fun _ _ _ _ _ _ => False)
    (fun _ _ _ _ _ _ _ _ _ _ => False)
    (fun id Q ds f h => Q (.exit id) ds f h)
    (fun _ _ _ _ _ _ => False)
    (fun _ Q ds f h => Q .normal ds f h)
    (fun _ _ _ _ _ => False)
    (fun Q ds f h => Q .ret ds f h)
    (fun _ _ _ _ _ => False)
    c
def codeOkD (n : Nat) : Code → Bool
  | .region _ ops draw => ops.toList.all (operOkD n) && !draw
  | .seq a b | .cond _ a b => codeOkD n a && codeOkD n b
  | .block _ c => codeOkD n c
  | _ => true
theorem hcodeD_sound {P : Program} {n : Nat} {E : Env} (c : Code) : codeOkD n c = true →
    ∀ {Q ds f h a w}, hcodeD P c Q ds f h → FitsD ds n f a → At E h w → c.wp P (liftDD E n Q) a w := by
  induction c with
  | skip => intro _ Q ds f h a w hh hf ha; exact wp_skip ⟨ds, f, h, hf, ha, hh⟩
  | region id ops draw =>
    intro hok Q ds f h a w hh hf ha
    simp only [codeOkD, Bool.and_eq_true] at hok
    have hdst : ops.toList.all (fun o => dstOk n o.dst) = true := List.all_eq_true.2 fun o ho => by
      have := List.all_eq_true.1 hok.1 o ho
      unfold operOkD at this
      simp only [Bool.and_eq_true] at this
      exact this.1
    cases draw with
    | false => exact wp_region_list (hopsD_sound hdst _ hok.1 hh hf ha)
    | true => simp at hok
  | seq x y ihx ihy =>
    intro hok Q ds f h a w hh hf ha
    simp only [codeOkD, Bool.and_eq_true] at hok
    refine wp_seq (Code.wp_mono ?_ (ihx hok.1 hh hf ha))
    rintro e a' w' ⟨ds', f', h', hf', ha', hq⟩
    cases e <;> first
      | exact ihy hok.2 hq hf' ha'
      | exact ⟨ds', f', h', hf', ha', hq⟩
  | cond c x y ihx ihy =>
    intro hok Q ds f h a w hh hf ha
    simp only [codeOkD, Bool.and_eq_true] at hok
    obtain ⟨t, ht, hb⟩ := hh
    refine wp_cond (t := t) (by rw [hf.eval]; exact ht) ?_
    cases t with
    | true => exact ihx hok.1 hb hf ha
    | false => exact ihy hok.2 (by rw [if_neg Bool.false_ne_true] at hb; exact hb) hf ha
  | block id c ih =>
    intro hok Q ds f h a w hh hf ha
    refine wp_block (Code.wp_mono ?_ (ih hok hh hf ha))
    rintro e a' w' ⟨ds', f', h', hf', ha', hq⟩
    cases e with
    | exit id' =>
      simp only [Exit.inBlock]
      simp only [inBD] at hq
      split
      · rename_i he; rw [if_pos he] at hq; exact ⟨ds', f', h', hf', ha', hq⟩
      · rename_i he; rw [if_neg he] at hq; exact ⟨ds', f', h', hf', ha', hq⟩
    | _ => exact ⟨ds', f', h', hf', ha', hq⟩
  | loop c ih => intro _ Q ds f h a w hh; exact hh.elim
  | rangeFunc g ps x y ihx ihy => intro _ Q ds f h a w hh; exact hh.elim
  | exit id => intro _ Q ds f h a w hh hf ha; exact wp_exit ⟨ds, f, h, hf, ha, hh⟩
  | scope c ih => intro _ Q ds f h a w hh; exact hh.elim
  | label l => intro _ Q ds f h a w hh hf ha; exact wp_label ⟨ds, f, h, hf, ha, hh⟩
  | goto l => intro _ Q ds f h a w hh; exact hh.elim
  | ret => intro _ Q ds f h a w hh hf ha; exact wp_ret ⟨ds, f, h, hf, ha, hh⟩
  | refuse why => intro _ Q ds f h a w hh; exact hh.elim
/-- at the end: what was deferred, then the results -/
def leaveD (P : Program) (rs : List ResultVar) (R : Value → Heap → Prop) (f : F) : List Deferred → Heap → Prop
  | [], h => fin R f h rs
  | d :: ds, h => ∃ g cap, d.target = .fn (.func g) cap ∧ hasBody P g = true ∧ HCallsD P g (d.args ++ cap) h fun _ h' => leaveD P rs R f ds h'
def postD (P : Program) (rs : List ResultVar) (R : Value → Heap → Prop) : Exit → List Deferred → F → Heap → Prop
  | .normal, ds, f, h => leaveD P rs R f ds h
  | .ret, ds, f, h => leaveD P rs R f ds h
  | _, _, _, _ => False
theorem leaveD_sound {P : Program} {fn : Func} {R : Value → Heap → Prop} {f : F} {a : Act} {n : Nat} {E : Env} (hf : Fits n f { tmps := a.tmps, defers := [] }) (hr : resOk P fn.results.toList = true) :
    ∀ (ds : List Deferred) {h : Heap} {w : World}, leaveD P fn.results.toList R f ds h → At E h w → Leaves P fn a.tmps (fun e w' => ∃ v h', e = .returned v ∧ At E h' w' ∧ R v h') ds .returning w
  | [], h, w, hh, ha => by
    obtain ⟨l, hl, hR⟩ := hh
    obtain ⟨rfl, h2, h3, h4⟩ := ha
    exact ⟨_, run_of_rd' (results_rd hf hr hl), _, _, rfl, ⟨rfl, h2, h3, h4⟩, hR⟩
  | d :: ds, h, w, hh, ha => by
    obtain ⟨g, cap, ht, hg, hc⟩ := hh
    refine ⟨by simp, .func g, cap, g, d.args ++ cap, ht, ?_, ?_⟩
    · rw [ht]
      obtain ⟨rfl, _, _, _⟩ := ha
      exact run_of_rd' (rd_callFunc hg _ _)
    · refine CallsD.mono (hc E w ha) ?_
      rintro e u' w' ⟨rfl, v, h', rfl, ha', hR⟩
      exact leaveD_sound hf hr ds hR ha'
theorem hcallsDf {P : Program} {g : FuncId} {fn : Func} {args : Array Value} {h : Heap} {R : Value → Heap → Prop} {top : (Exit → List Deferred → F → Heap → Prop) → List Deferred → F → Heap → Prop} {rs : List ResultVar}
    (hf : P.funcs[g]? = some fn) (hc : top = hcodeD P (fn.body.getD .skip)) (hb : fn.body.isSome = true) (hn : Nat.ble args.size fn.ntmps = true) (hok : codeOkD fn.ntmps (fn.body.getD .skip) = true) (hrs : fn.results.toList = rs) (hr : resOk P rs = true)
    (hh : top (postD P rs R) [] (frame0 args) h) : HCalls P g args h R := by
  subst hc; subst hrs
  obtain ⟨c, hb⟩ : ∃ c, fn.body = some c := by cases hbb : fn.body with | none => rw [hbb] at hb; simp at hb | some c => exact ⟨c, rfl⟩
  rw [hb] at hh hok
  intro E w ha
  refine calls_of_wp_defers hf hb ?_
  refine Code.wp_mono ?_ (hcodeD_sound (E := E) (n := fn.ntmps) c hok hh ⟨fits0 (Nat.le_of_ble_eq_true hn), rfl⟩ ha)
  rintro e a w' ⟨ds, f, h', hf', ha', hq⟩
  have key : leaveD P fn.results.toList R f ds h' → Leaves P fn a.tmps (fun e w' => ∃ v h', e = .returned v ∧ At E h' w' ∧ R v h') a.defers .returning w' := fun hq => by
    rw [hf'.defers]; exact leaveD_sound hf'.fits hr ds hq ha'
  cases e with
  | normal => exact key hq
  | ret => exact key hq
  | _ => exact hq.elim
/-- a 'defer' of a function value -/
def dfr (P : Program) (v : Value) (args : List Value) (K : List Deferred → Heap → Prop) (ds : List Deferred) (h : Heap) : Prop := ∃ d, rd P (Deferred.ofValue v args.toArray) h = some d ∧ K (d :: ds) h
end Go.Hv
open Go Go.Hv
set_option maxRecDepth 100000
namespace Go.Proofs.G
/-- tenon/tenonlaw14.GraphOnce: parameters [a0, a1, a2]; results [.tmp 6]; slots [0:nodes, 1:edges, 2:from, 3:nodes, 4:edges, 5:from, 7:g, 8:e, 9:in, 10:out, 11:open, 12:ok, 13:f, 14:l, 15:h, 16:i]; draws [17] -/
def once_md : Nat → RM := fun _ => RM.quiet
def once_c1 (Q : Exit → F → Heap → Prop) (f : F) (h : Heap) : Prop :=
  Q .ret (U f [(6, (Value.bool true))]) h

def once_L2 (Q : Exit → F → Heap → Prop) (f : F) (h : Heap) : Prop :=
  run P (X.builtin .len #[22] 3 [false] [(f 14)]) (fun v81 h =>
  run P (X.bin .lss 3 false false (f 16) v81) (fun v82 h =>
  br v82 (
    still P (X.load 22 (f 9)) (fun v85 =>
    still P (X.move (f 14)) (fun v86 =>
    still P (X.move (f 16)) (fun v87 =>
    still P (X.indexAddr 22 v86 v87) (fun v88 =>
    still P (X.load 41 v88) (fun v89 =>
    still P (X.callF 18 [v85, v89]) (fun v90 =>
    still P (X.un .not v90) (fun v91 =>
    still P (X.move v91) (fun v92 =>
    whenq (gw v92 false) (still P (X.load 22 (f 10))) (fun v93 =>
    whenq (gw v92 false) (still P (X.move (f 14))) (fun v94 =>
    whenq (gw v92 false) (still P (X.move (f 16))) (fun v95 =>
    whenq (gw v92 false) (still P (X.indexAddr 22 v94 v95)) (fun v96 =>
    whenq (gw v92 false) (still P (X.load 41 v96)) (fun v97 =>
    whenq (gw v92 false) (still P (X.callF 18 [v93, v97])) (fun v98 =>
    whenq (gw v92 false) (still P (X.un .not v98)) (fun v99 =>
    still P (X.pick v92 (Value.bool true) v99) (fun v100 =>
    br v100 (
      Q .ret (U f [(79, (f 16)), (80, (f 14)), (81, v81), (82, v82), (85, v85), (86, v86), (87, v87), (88, v88), (89, v89), (90, v90), (91, v91), (92, v92), (93, v93), (94, v94), (95, v95), (96, v96), (97, v97), (98, v98), (99, v99), (100, v100), (6, (Value.bool false))]) h
    ) (
      run P (X.bin .add 3 false true (f 16) (Value.int .i64 1)) (fun v84 h =>
      Q .normal (U f [(79, (f 16)), (80, (f 14)), (81, v81), (82, v82), (85, v85), (86, v86), (87, v87), (88, v88), (89, v89), (90, v90), (91, v91), (92, v92), (93, v93), (94, v94), (95, v95), (96, v96), (97, v97), (98, v98), (99, v99), (100, v100), (83, (f 16)), (84, v84), (16, v84)]) h
      ) h
    )
    ) h
    ) h
    ) h
    ) h
    ) h
    ) h
    ) h
    ) h
    ) h
    ) h
    ) h
    ) h
    ) h
    ) h
    ) h
    ) h
  ) (
    Q (.exit 0) (U f [(79, (f 16)), (80, (f 14)), (81, v81), (82, v82)]) h
  )
  ) h
  ) h

def once_c0 (Q : Exit → F → Heap → Prop) (f : F) (h : Heap) : Prop :=
  run P (X.box 23 (f 1)) (fun v4 h =>
  run P (X.callF 13 []) (fun v17 h =>
  run P (X.un .not v17) (fun v18 h =>
  br v18 (
    Q .ret (U f [(4, v4), (6, (Value.bool false)), (17, v17), (18, v18), (6, (Value.bool false))]) h
  ) (
    run P (X.load 23 v4) (fun v21 h =>
    run P (X.callF 14 [(f 0), v21]) (fun v22 h =>
    run P (X.extract v22 0) (fun v23 h =>
    run P (X.extract v22 1) (fun v24 h =>
    run P (X.bin .neq 33 false true v24 (Value.int .i64 0)) (fun v26 h =>
    when (gw v26 false) (run P (X.move v23)) (fun v28 h =>
    when (gw v26 false) (run P (X.bin .eql 24 false true v28 (Value.pointer none))) (fun v29 h =>
    run P (X.pick v26 (Value.bool true) v29) (fun v30 h =>
    br v30 (
      run P (X.bin .eql 24 false true v23 (Value.pointer none)) (fun v32 h =>
      Q .ret (U f [(4, v4), (6, (Value.bool false)), (17, v17), (18, v18), (20, (f 0)), (21, v21), (22, v22), (19, v22), (23, v23), (24, v24), (7, v23), (8, v24), (25, v24), (26, v26), (27, v26), (28, v28), (29, v29), (30, v30), (31, v23), (32, v32), (6, v32)]) h
      ) h
    ) (
      run P (X.alloc 22) (fun v9 h =>
      run P (X.alloc 22) (fun v10 h =>
      run P (X.alloc 22) (fun v11 h =>
      run P (X.alloc 4) (fun v12 h =>
      run P (X.store 4 v12 (Value.bool true)) (fun _ h =>
      run P (X.mkFunc (.func 28) [] [v12, v9, v11, v4]) (fun v35 h =>
      run P (X.mkFunc (.func 29) [] [v12, v11, v10]) (fun v36 h =>
      run P (X.callF 27 [v23, (f 2), v35, v36]) (fun v37 h =>
      run P (X.callF 24 [v23, (f 2)]) (fun v41 h =>
      run P (X.extract v41 0) (fun v42 h =>
      run P (X.extract v41 1) (fun v43 h =>
      run P (X.bin .neq 33 false true v37 (Value.int .i64 0)) (fun v45 h =>
      br v45 (
        run P (X.bin .eql 33 false false v37 v43) (fun v48 h =>
        when (gw v48 true) (run P (X.load 22 v9)) (fun v50 h =>
        when (gw v48 true) (run P (X.builtin .len #[22] 3 [false] [v50])) (fun v51 h =>
        when (gw v48 true) (run P (X.bin .eql 3 false true v51 (Value.int .i64 0))) (fun v52 h =>
        run P (X.pick v48 v52 (Value.bool false)) (fun v53 h =>
        Q .ret (U f [(4, v4), (6, (Value.bool false)), (17, v17), (18, v18), (20, (f 0)), (21, v21), (22, v22), (19, v22), (23, v23), (24, v24), (7, v23), (8, v24), (25, v24), (26, v26), (27, v26), (28, v28), (29, v29), (30, v30), (9, v9), (10, v10), (11, v11), (12, v12), (33, v23), (34, (f 2)), (35, v35), (36, v36), (37, v37), (13, v37), (39, v23), (40, (f 2)), (41, v41), (38, v41), (42, v42), (43, v43), (14, v42), (15, v43), (44, v37), (45, v45), (46, v37), (47, v43), (48, v48), (49, v48), (50, v50), (51, v51), (52, v52), (53, v53), (6, v53)]) h
        ) h
        ) h
        ) h
        ) h
        ) h
      ) (
        run P (X.load 4 v12) (fun v54 h =>
        run P (X.un .not v54) (fun v55 h =>
        when (gw v55 false) (run P (X.move v43)) (fun v57 h =>
        when (gw v55 false) (run P (X.bin .neq 33 false true v57 (Value.int .i64 0))) (fun v58 h =>
        run P (X.pick v55 (Value.bool true) v58) (fun v59 h =>
        when (gw v59 false) (run P (X.load 22 v11)) (fun v61 h =>
        when (gw v59 false) (run P (X.builtin .len #[22] 3 [false] [v61])) (fun v62 h =>
        when (gw v59 false) (run P (X.bin .neq 3 false true v62 (Value.int .i64 0))) (fun v63 h =>
        run P (X.pick v59 (Value.bool true) v63) (fun v64 h =>
        when (gw v64 false) (run P (X.load 22 v9)) (fun v66 h =>
        when (gw v64 false) (run P (X.builtin .len #[22] 3 [false] [v66])) (fun v67 h =>
        when (gw v64 false) (run P (X.move v42)) (fun v68 h =>
        when (gw v64 false) (run P (X.builtin .len #[22] 3 [false] [v68])) (fun v69 h =>
        when (gw v64 false) (run P (X.bin .neq 3 false false v67 v69)) (fun v70 h =>
        run P (X.pick v64 (Value.bool true) v70) (fun v71 h =>
        when (gw v71 false) (run P (X.load 22 v10)) (fun v73 h =>
        when (gw v71 false) (run P (X.builtin .len #[22] 3 [false] [v73])) (fun v74 h =>
        when (gw v71 false) (run P (X.move v42)) (fun v75 h =>
        when (gw v71 false) (run P (X.builtin .len #[22] 3 [false] [v75])) (fun v76 h =>
        when (gw v71 false) (run P (X.bin .neq 3 false false v74 v76)) (fun v77 h =>
        run P (X.pick v71 (Value.bool true) v77) (fun v78 h =>
        br v78 (
          Q .ret (U f [(4, v4), (6, (Value.bool false)), (17, v17), (18, v18), (20, (f 0)), (21, v21), (22, v22), (19, v22), (23, v23), (24, v24), (7, v23), (8, v24), (25, v24), (26, v26), (27, v26), (28, v28), (29, v29), (30, v30), (9, v9), (10, v10), (11, v11), (12, v12), (33, v23), (34, (f 2)), (35, v35), (36, v36), (37, v37), (13, v37), (39, v23), (40, (f 2)), (41, v41), (38, v41), (42, v42), (43, v43), (14, v42), (15, v43), (44, v37), (45, v45), (54, v54), (55, v55), (56, v55), (57, v57), (58, v58), (59, v59), (60, v59), (61, v61), (62, v62), (63, v63), (64, v64), (65, v64), (66, v66), (67, v67), (68, v68), (69, v69), (70, v70), (71, v71), (72, v71), (73, v73), (74, v74), (75, v75), (76, v76), (77, v77), (78, v78), (6, (Value.bool false))]) h
        ) (
          lp once_L2 (inB 0 (thenQ (once_c1 Q) Q)) (U f [(4, v4), (6, (Value.bool false)), (17, v17), (18, v18), (20, (f 0)), (21, v21), (22, v22), (19, v22), (23, v23), (24, v24), (7, v23), (8, v24), (25, v24), (26, v26), (27, v26), (28, v28), (29, v29), (30, v30), (9, v9), (10, v10), (11, v11), (12, v12), (33, v23), (34, (f 2)), (35, v35), (36, v36), (37, v37), (13, v37), (39, v23), (40, (f 2)), (41, v41), (38, v41), (42, v42), (43, v43), (14, v42), (15, v43), (44, v37), (45, v45), (54, v54), (55, v55), (56, v55), (57, v57), (58, v58), (59, v59), (60, v59), (61, v61), (62, v62), (63, v63), (64, v64), (65, v64), (66, v66), (67, v67), (68, v68), (69, v69), (70, v70), (71, v71), (72, v71), (73, v73), (74, v74), (75, v75), (76, v76), (77, v77), (78, v78), (16, (Value.int .i64 0))]) h
        )
        ) h
        ) h
        ) h
        ) h
        ) h
        ) h
        ) h
        ) h
        ) h
        ) h
        ) h
        ) h
        ) h
        ) h
        ) h
        ) h
        ) h
        ) h
        ) h
        ) h
        ) h
      )
      ) h
      ) h
      ) h
      ) h
      ) h
      ) h
      ) h
      ) h
      ) h
      ) h
      ) h
      ) h
    )
    ) h
    ) h
    ) h
    ) h
    ) h
    ) h
    ) h
    ) h
  )
  ) h
  ) h
  ) h
theorem once_code : once_c0 = hcode P once_md (Try.f8.body.getD .skip) := by kernel_rfl
theorem once_ok {a0 a1 a2 : Value} {h : Heap} {R : Value → Heap → Prop} (hh : once_c0 (post [.tmp 6] R) (frame0 #[a0, a1, a2]) h) : HCalls P 8 #[a0, a1, a2] h R :=
  hcalls_gen (md := once_md) follows Try.func8 once_code (by kernel_rfl) (by kernel_rfl) (by kernel_rfl) (by kernel_rfl) (by kernel_rfl) hh

/-- tenon/tenonlaw14.GraphOnce$1: parameters [a0, c0, c1, c2, c3]; results [.tmp 6]; slots [0:n, 5:n]; draws [1, 2] -/
def oncef1_md : Nat → RM := fun i => if i = 1 then RM.held [(0, true), (1, true), (2, true), (3, true), (4, false), (5, true), (6, true), (7, true), (8, true), (9, true), (10, true), (11, true), (12, true), (13, true), (14, true), (15, true), (16, true), (17, true), (18, true), (19, true), (20, false), (21, true), (22, true), (23, false)] else if i = 2 then RM.tree (.op 0 3 (.op 1 0 (.op 4 3 (.op 5 0 (.two 2 6 (.two 3 6 (.op 6 4 (.op 7 4 (.op 8 2 (.op 9 2 .done)))) (.op 3 4 (.op 7 4 (.op 8 2 (.op 9 2 .done))))) (.op 2 4 (.op 3 4 (.op 7 4 (.op 8 2 (.op 9 2 .done)))))))))) else RM.quiet
def oncef1_c1 (Q : Exit → F → Heap → Prop) (f : F) (h : Heap) : Prop :=
  Q .ret (U f [(6, (Value.bool true))]) h

def oncef1_c0 (Q : Exit → F → Heap → Prop) (f : F) (h : Heap) : Prop :=
  ∃ St : Heap → Prop,
  tk P St (X.load 4 (f 1)) (fun v7 =>
  tk P St (X.move v7) (fun v8 =>
  whent (gw v8 true) (tk P St (X.load 22 (f 2))) (fun v9 =>
  whent (gw v8 true) (tk P St (X.move (f 0))) (fun v10 =>
  when (gw v8 true) (run P (X.callF 18 [v9, v10])) (fun v11 h => St h ∧ (
  whent (gw v8 true) (tk P St (X.un .not v11)) (fun v12 =>
  tk P St (X.pick v8 v12 (Value.bool false)) (fun v13 =>
  tk P St (X.move v13) (fun v14 =>
  whent (gw v14 true) (tk P St (X.load 22 (f 3))) (fun v15 =>
  whent (gw v14 true) (tk P St (X.builtin .len #[22] 3 [false] [v15])) (fun v16 =>
  whent (gw v14 true) (tk P St (X.bin .eql 3 false true v16 (Value.int .i64 0))) (fun v17 =>
  whent (gw v14 true) (tk P St (X.move v17)) (fun v18 =>
  whent (gw v18 false) (tk P St (X.load 23 (f 4))) (fun v19 =>
  whent (gw v18 false) (tk P St (X.load 22 (f 3))) (fun v20 =>
  whent (gw v18 false) (tk P St (X.load 22 (f 3))) (fun v21 =>
  whent (gw v18 false) (tk P St (X.builtin .len #[22] 3 [false] [v21])) (fun v22 =>
  whent (gw v18 false) (tk P St (X.bin .sub 3 false true v22 (Value.int .i64 1))) (fun v23 =>
  whent (gw v18 false) (tk P St (X.indexAddr 22 v20 v23)) (fun v24 =>
  whent (gw v18 false) (tk P St (X.load 41 v24)) (fun v25 =>
  whent (gw v18 false) (tk P St (X.move (f 0))) (fun v26 =>
  when (gw v18 false) (run P (X.callF 17 [v19, v25, v26])) (fun v27 h => St h ∧ (
  whent (gw v14 true) (tk P St (X.pick v18 (Value.bool true) v27)) (fun v28 =>
  tk P St (X.pick v14 v28 (Value.bool false)) (fun v29 =>
  run P (X.store 4 (f 1) v29) (fun _ h => St h ∧ (
  ∃ St : Heap → Prop,
  tk P St (X.load 22 (f 2)) (fun v30 =>
  tf P (X.move (f 0)) (fun v31 =>
  tk P St (X.load 22 (f 3)) (fun v34 =>
  tf P (X.move (f 0)) (fun v35 =>
  (
    run P (X.buildSlice 22 1 [(0, v31)]) (fun v32 h => St h ∧ (
    (
      run P (X.builtin .append #[22, 22] 22 [false, false] [v30, v32]) (fun v33 h => St h ∧ (
      run P (X.buildSlice 22 1 [(0, v35)]) (fun v36 h => St h ∧ (
      run P (X.builtin .append #[22, 22] 22 [false, false] [v34, v36]) (fun v37 h => St h ∧ (
      run P (X.store 22 (f 2) v33) (fun _ h =>
      run P (X.store 22 (f 3) v37) (fun _ h =>
      oncef1_c1 Q (U f [(6, (Value.bool false)), (7, v7), (8, v8), (9, v9), (10, v10), (11, v11), (12, v12), (13, v13), (14, v14), (15, v15), (16, v16), (17, v17), (18, v18), (19, v19), (20, v20), (21, v21), (22, v22), (23, v23), (24, v24), (25, v25), (26, v26), (27, v27), (28, v28), (29, v29), (30, v30), (31, v31), (34, v34), (35, v35), (32, v32), (33, v33), (36, v36), (37, v37)]) h
      ) h
      ) h
      )) h
      )) h
      )) h
    ) ∧ (
      run P (X.buildSlice 22 1 [(0, v35)]) (fun v36 h => St h ∧ (
      run P (X.builtin .append #[22, 22] 22 [false, false] [v30, v32]) (fun v33 h => St h ∧ (
      run P (X.builtin .append #[22, 22] 22 [false, false] [v34, v36]) (fun v37 h => St h ∧ (
      run P (X.store 22 (f 2) v33) (fun _ h =>
      run P (X.store 22 (f 3) v37) (fun _ h =>
      oncef1_c1 Q (U f [(6, (Value.bool false)), (7, v7), (8, v8), (9, v9), (10, v10), (11, v11), (12, v12), (13, v13), (14, v14), (15, v15), (16, v16), (17, v17), (18, v18), (19, v19), (20, v20), (21, v21), (22, v22), (23, v23), (24, v24), (25, v25), (26, v26), (27, v27), (28, v28), (29, v29), (30, v30), (31, v31), (34, v34), (35, v35), (32, v32), (36, v36), (33, v33), (37, v37)]) h
      ) h
      ) h
      )) h
      )) h
      )) h
    )
    )) h
  ) ∧ (
    run P (X.buildSlice 22 1 [(0, v35)]) (fun v36 h => St h ∧ (
    run P (X.buildSlice 22 1 [(0, v31)]) (fun v32 h => St h ∧ (
    run P (X.builtin .append #[22, 22] 22 [false, false] [v30, v32]) (fun v33 h => St h ∧ (
    run P (X.builtin .append #[22, 22] 22 [false, false] [v34, v36]) (fun v37 h => St h ∧ (
    run P (X.store 22 (f 2) v33) (fun _ h =>
    run P (X.store 22 (f 3) v37) (fun _ h =>
    oncef1_c1 Q (U f [(6, (Value.bool false)), (7, v7), (8, v8), (9, v9), (10, v10), (11, v11), (12, v12), (13, v13), (14, v14), (15, v15), (16, v16), (17, v17), (18, v18), (19, v19), (20, v20), (21, v21), (22, v22), (23, v23), (24, v24), (25, v25), (26, v26), (27, v27), (28, v28), (29, v29), (30, v30), (31, v31), (34, v34), (35, v35), (36, v36), (32, v32), (33, v33), (37, v37)]) h
    ) h
    ) h
    )) h
    )) h
    )) h
    )) h
  )
  )
  ) h
  )
  ) h
  )) h
  ) h
  ) St h
  )) h
  ) St h
  ) St h
  ) St h
  ) St h
  ) St h
  ) St h
  ) St h
  ) St h
  ) St h
  ) St h
  ) St h
  ) St h
  ) h
  ) h
  ) St h
  )) h
  ) St h
  ) St h
  ) h
  ) h
theorem oncef1_code : oncef1_c0 = hcode P oncef1_md (Try.f28.body.getD .skip) := by kernel_rfl
theorem oncef1_ok {a0 c0 c1 c2 c3 : Value} {h : Heap} {R : Value → Heap → Prop} (hh : oncef1_c0 (post [.tmp 6] R) (frame0 #[a0, c0, c1, c2, c3]) h) : HCalls P 28 #[a0, c0, c1, c2, c3] h R :=
  hcalls_gen (md := oncef1_md) follows Try.func28 oncef1_code (by kernel_rfl) (by kernel_rfl) (by kernel_rfl) (by kernel_rfl) (by kernel_rfl) hh

/-- tenon/tenonlaw14.GraphOnce$2: parameters [a0, c0, c1, c2]; results [.tmp 5]; slots [0:n, 4:n]; draws [] -/
def oncef2_md : Nat → RM := fun _ => RM.quiet
def oncef2_c1 (Q : Exit → F → Heap → Prop) (f : F) (h : Heap) : Prop :=
  run P (X.load 22 (f 3)) (fun v30 h =>
  run P (X.buildSlice 22 1 [(0, (f 0))]) (fun v32 h =>
  run P (X.builtin .append #[22, 22] 22 [false, false] [v30, v32]) (fun v33 h =>
  run P (X.store 22 (f 3) v33) (fun _ h =>
  Q .ret (U f [(30, v30), (31, (f 0)), (32, v32), (33, v33), (5, (Value.bool true))]) h
  ) h
  ) h
  ) h
  ) h

def oncef2_c0 (Q : Exit → F → Heap → Prop) (f : F) (h : Heap) : Prop :=
  run P (X.load 4 (f 1)) (fun v6 h =>
  when (gw v6 true) (run P (X.load 22 (f 2))) (fun v8 h =>
  when (gw v6 true) (run P (X.builtin .len #[22] 3 [false] [v8])) (fun v9 h =>
  when (gw v6 true) (run P (X.bin .gtr 3 false true v9 (Value.int .i64 0))) (fun v10 h =>
  run P (X.pick v6 v10 (Value.bool false)) (fun v11 h =>
  when (gw v11 true) (run P (X.load 22 (f 2))) (fun v13 h =>
  when (gw v11 true) (run P (X.load 22 (f 2))) (fun v14 h =>
  when (gw v11 true) (run P (X.builtin .len #[22] 3 [false] [v14])) (fun v15 h =>
  when (gw v11 true) (run P (X.bin .sub 3 false true v15 (Value.int .i64 1))) (fun v16 h =>
  when (gw v11 true) (run P (X.indexAddr 22 v13 v16)) (fun v17 h =>
  when (gw v11 true) (run P (X.load 41 v17)) (fun v18 h =>
  when (gw v11 true) (run P (X.move (f 0))) (fun v19 h =>
  when (gw v11 true) (run P (X.bin .eql 41 false false v18 v19)) (fun v20 h =>
  run P (X.pick v11 v20 (Value.bool false)) (fun v21 h =>
  run P (X.store 4 (f 1) v21) (fun _ h =>
  run P (X.load 22 (f 2)) (fun v22 h =>
  run P (X.builtin .len #[22] 3 [false] [v22]) (fun v23 h =>
  run P (X.bin .gtr 3 false true v23 (Value.int .i64 0)) (fun v24 h =>
  br v24 (
    run P (X.load 22 (f 2)) (fun v25 h =>
    run P (X.load 22 (f 2)) (fun v26 h =>
    run P (X.builtin .len #[22] 3 [false] [v26]) (fun v27 h =>
    run P (X.bin .sub 3 false true v27 (Value.int .i64 1)) (fun v28 h =>
    run P (X.slice 22 v25 none (some v28) none) (fun v29 h =>
    run P (X.store 22 (f 2) v29) (fun _ h =>
    oncef2_c1 Q (U f [(5, (Value.bool false)), (6, v6), (7, v6), (8, v8), (9, v9), (10, v10), (11, v11), (12, v11), (13, v13), (14, v14), (15, v15), (16, v16), (17, v17), (18, v18), (19, v19), (20, v20), (21, v21), (22, v22), (23, v23), (24, v24), (25, v25), (26, v26), (27, v27), (28, v28), (29, v29)]) h
    ) h
    ) h
    ) h
    ) h
    ) h
    ) h
  ) (
    oncef2_c1 Q (U f [(5, (Value.bool false)), (6, v6), (7, v6), (8, v8), (9, v9), (10, v10), (11, v11), (12, v11), (13, v13), (14, v14), (15, v15), (16, v16), (17, v17), (18, v18), (19, v19), (20, v20), (21, v21), (22, v22), (23, v23), (24, v24)]) h
  )
  ) h
  ) h
  ) h
  ) h
  ) h
  ) h
  ) h
  ) h
  ) h
  ) h
  ) h
  ) h
  ) h
  ) h
  ) h
  ) h
  ) h
  ) h
theorem oncef2_code : oncef2_c0 = hcode P oncef2_md (Try.f29.body.getD .skip) := by kernel_rfl
theorem oncef2_ok {a0 c0 c1 c2 : Value} {h : Heap} {R : Value → Heap → Prop} (hh : oncef2_c0 (post [.tmp 5] R) (frame0 #[a0, c0, c1, c2]) h) : HCalls P 29 #[a0, c0, c1, c2] h R :=
  hcalls_gen (md := oncef2_md) follows Try.func29 oncef2_code (by kernel_rfl) (by kernel_rfl) (by kernel_rfl) (by kernel_rfl) (by kernel_rfl) hh

/-- (*tenon/graph.Graph).walk: parameters [a0, a1, a2, a3, a4]; results [.tmp 10]; slots [0:g, 1:l, 2:entered, 3:enter, 4:leave, 5:g, 6:l, 7:entered, 8:enter, 9:leave, 11:_, 12:n]; draws [] -/
def walk_md : Nat → RM := fun _ => RM.quiet
def walk_c1 (Q : Exit → F → Heap → Prop) (f : F) (h : Heap) : Prop :=
  Q .ret (U f [(10, (Value.bool true))]) h

def walk_c3 (Q : Exit → F → Heap → Prop) (f : F) (h : Heap) : Prop :=
  run P (X.bin .add 3 false true (f 15) (Value.int .i64 1)) (fun v45 h =>
  Q .normal (U f [(45, v45), (15, v45)]) h
  ) h

def walk_L2 (Q : Exit → F → Heap → Prop) (f : F) (h : Heap) : Prop :=
  run P (X.bin .lss 3 false false (f 15) (f 14)) (fun v16 h =>
  br v16 (
    run P (X.indexAddr 22 (f 13) (f 15)) (fun v17 h =>
    run P (X.load 41 v17) (fun v18 h =>
    run P (X.lookup 76 (f 2) v18 false) (fun v21 h =>
    br v21 (
      walk_c3 Q (U f [(16, v16), (17, v17), (18, v18), (12, v18), (19, (f 2)), (20, v18), (21, v21)]) h
    ) (
      run P (X.mapUpdate 76 (f 2) v18 (Value.bool true)) (fun _ h =>
      run P (X.dyn (f 3) [v18]) (fun v26 h =>
      when (gw v26 true) (run P (X.move (f 0))) (fun v28 h =>
      when (gw v26 true) (run P (X.move (f 0))) (fun v29 h =>
      when (gw v26 true) (run P (X.nilCheck v29)) (fun v30 h =>
      when (gw v26 true) (run P (X.fieldAddr 75 v30 1)) (fun v31 h =>
      when (gw v26 true) (run P (X.load 72 v31)) (fun v32 h =>
      when (gw v26 true) (run P (X.move v18)) (fun v33 h =>
      when (gw v26 true) (run P (X.lookup 72 v32 v33 false)) (fun v34 h =>
      when (gw v26 true) (run P (X.move (f 2))) (fun v35 h =>
      when (gw v26 true) (run P (X.move (f 3))) (fun v36 h =>
      when (gw v26 true) (run P (X.move (f 4))) (fun v37 h =>
      when (gw v26 true) (run P (X.callF 61 [v28, v34, v35, v36, v37])) (fun v38 h =>
      when (gw v26 true) (run P (X.un .not v38)) (fun v39 h =>
      run P (X.pick v26 v39 (Value.bool false)) (fun v40 h =>
      br v40 (
        Q .ret (U f [(16, v16), (17, v17), (18, v18), (12, v18), (19, (f 2)), (20, v18), (21, v21), (22, (f 2)), (23, v18), (24, (f 3)), (25, v18), (26, v26), (27, v26), (28, v28), (29, v29), (30, v30), (31, v31), (32, v32), (33, v33), (34, v34), (35, v35), (36, v36), (37, v37), (38, v38), (39, v39), (40, v40), (10, (Value.bool false))]) h
      ) (
        run P (X.dyn (f 4) [v18]) (fun v43 h =>
        run P (X.un .not v43) (fun v44 h =>
        br v44 (
          Q .ret (U f [(16, v16), (17, v17), (18, v18), (12, v18), (19, (f 2)), (20, v18), (21, v21), (22, (f 2)), (23, v18), (24, (f 3)), (25, v18), (26, v26), (27, v26), (28, v28), (29, v29), (30, v30), (31, v31), (32, v32), (33, v33), (34, v34), (35, v35), (36, v36), (37, v37), (38, v38), (39, v39), (40, v40), (41, (f 4)), (42, v18), (43, v43), (44, v44), (10, (Value.bool false))]) h
        ) (
          walk_c3 Q (U f [(16, v16), (17, v17), (18, v18), (12, v18), (19, (f 2)), (20, v18), (21, v21), (22, (f 2)), (23, v18), (24, (f 3)), (25, v18), (26, v26), (27, v26), (28, v28), (29, v29), (30, v30), (31, v31), (32, v32), (33, v33), (34, v34), (35, v35), (36, v36), (37, v37), (38, v38), (39, v39), (40, v40), (41, (f 4)), (42, v18), (43, v43), (44, v44)]) h
        )
        ) h
        ) h
      )
      ) h
      ) h
      ) h
      ) h
      ) h
      ) h
      ) h
      ) h
      ) h
      ) h
      ) h
      ) h
      ) h
      ) h
      ) h
    )
    ) h
    ) h
    ) h
  ) (
    Q (.exit 0) (U f [(16, v16)]) h
  )
  ) h

def walk_c0 (Q : Exit → F → Heap → Prop) (f : F) (h : Heap) : Prop :=
  run P (X.builtin .len #[22] 3 [false] [(f 1)]) (fun v14 h =>
  lp walk_L2 (inB 0 (thenQ (walk_c1 Q) Q)) (U f [(10, (Value.bool false)), (13, (f 1)), (14, v14), (15, (Value.int .i64 0))]) h
  ) h
theorem walk_code : walk_c0 = hcode P walk_md (Try.f61.body.getD .skip) := by kernel_rfl
theorem walk_ok {a0 a1 a2 a3 a4 : Value} {h : Heap} {R : Value → Heap → Prop} (hh : walk_c0 (post [.tmp 10] R) (frame0 #[a0, a1, a2, a3, a4]) h) : HCalls P 61 #[a0, a1, a2, a3, a4] h R :=
  hcalls_gen (md := walk_md) follows Try.func61 walk_code (by kernel_rfl) (by kernel_rfl) (by kernel_rfl) (by kernel_rfl) (by kernel_rfl) hh

/-- (*tenon/graph.Graph).Walk$1: parameters [c0, c1]; results []; slots []; draws [] -/
def walkf_md : Nat → RM := fun _ => RM.quiet
def walkf_c0 (Q : Exit → F → Heap → Prop) (f : F) (h : Heap) : Prop :=
  run P (X.load 4 (f 0)) (fun v2 h =>
  run P (X.un .not v2) (fun v3 h =>
  br v3 (
    run P (X.builtin .recover #[] 20 [] []) (fun v4 h =>
    run P (X.store 33 (f 1) (Value.int .i64 9)) (fun _ h =>
    Q .normal (U f [(2, v2), (3, v3), (4, v4)]) h
    ) h
    ) h
  ) (
    Q .normal (U f [(2, v2), (3, v3)]) h
  )
  ) h
  ) h
theorem walkf_code : walkf_c0 = hcode P walkf_md (Try.f60.body.getD .skip) := by kernel_rfl
theorem walkf_ok {c0 c1 : Value} {h : Heap} {R : Value → Heap → Prop} (hh : walkf_c0 (post [] R) (frame0 #[c0, c1]) h) : HCalls P 60 #[c0, c1] h R :=
  hcalls_gen (md := walkf_md) follows Try.func60 walkf_code (by kernel_rfl) (by kernel_rfl) (by kernel_rfl) (by kernel_rfl) (by kernel_rfl) hh

/-- (*tenon/graph.Graph).Walk: parameters [a0, a1, a2, a3]; results [.cell 8 33]; slots [0:g, 1:from, 2:enter, 3:leave, 4:g, 5:from, 6:enter, 7:leave, 8:e, 9:done]; draws [] -/
def walkTop_c0 (Q : Exit → List Deferred → F → Heap → Prop) (ds : List Deferred) (f : F) (h : Heap) : Prop :=
  run P (X.alloc 33) (fun v8 h =>
  run P (X.bin .eql 60 false true (f 2) Value.nilFunc) (fun v11 h =>
  when (gw v11 false) (run P (X.move (f 3))) (fun v13 h =>
  when (gw v11 false) (run P (X.bin .eql 60 false true v13 Value.nilFunc)) (fun v14 h =>
  run P (X.pick v11 (Value.bool true) v14) (fun v15 h =>
  br v15 (
    run P (X.store 33 v8 (Value.int .i64 1)) (fun _ h =>
    Q .ret ds (U f [(8, v8), (10, (f 2)), (11, v11), (12, v11), (13, v13), (14, v14), (15, v15)]) h
    ) h
  ) (
    run P (X.callF 56 [(f 0), (f 1)]) (fun v18 h =>
    run P (X.un .not v18) (fun v19 h =>
    br v19 (
      run P (X.store 33 v8 (Value.int .i64 140)) (fun _ h =>
      Q .ret ds (U f [(8, v8), (10, (f 2)), (11, v11), (12, v11), (13, v13), (14, v14), (15, v15), (16, (f 0)), (17, (f 1)), (18, v18), (19, v19)]) h
      ) h
    ) (
      run P (X.alloc 4) (fun v9 h =>
      run P (X.store 4 v9 (Value.bool false)) (fun _ h =>
      run P (X.mkFunc (.func 60) [] [v9, v8]) (fun v20 h =>
      dfr P v20 [] (fun ds h =>
      run P (X.mkMap 76 none) (fun v23 h =>
      run P (X.callF 61 [(f 0), (f 1), v23, (f 2), (f 3)]) (fun v26 h =>
      run P (X.store 4 v9 (Value.bool true)) (fun _ h =>
      run P (X.store 33 v8 (Value.int .i64 0)) (fun _ h =>
      Q .ret ds (U f [(8, v8), (10, (f 2)), (11, v11), (12, v11), (13, v13), (14, v14), (15, v15), (16, (f 0)), (17, (f 1)), (18, v18), (19, v19), (9, v9), (20, v20), (21, (f 0)), (22, (f 1)), (23, v23), (24, (f 2)), (25, (f 3)), (26, v26)]) h
      ) h
      ) h
      ) h
      ) h
      ) ds h
      ) h
      ) h
      ) h
    )
    ) h
    ) h
  )
  ) h
  ) h
  ) h
  ) h
  ) h
theorem walkTop_code : walkTop_c0 = hcodeD P (Try.f27.body.getD .skip) := by kernel_rfl
theorem walkTop_ok {a0 a1 a2 a3 : Value} {h : Heap} {R : Value → Heap → Prop} (hh : walkTop_c0 (postD P [.cell 8 33] R) [] (frame0 #[a0, a1, a2, a3]) h) : HCalls P 27 #[a0, a1, a2, a3] h R :=
  hcallsDf Try.func27 walkTop_code (by kernel_rfl) (by kernel_rfl) (by kernel_rfl) (by kernel_rfl) (by kernel_rfl) hh

end Go.Proofs.G
open Go Go.Hv
set_option maxRecDepth 100000
namespace Go.Proofs.G
theorem o4 : one P 4 = true := by kernel_rfl
theorem o23 : one P 23 = true := by kernel_rfl
theorem o33 : one P 33 = true := by kernel_rfl
theorem hqEql {t : TypeId} {c d : Bool} {k : IntKind} {a b : Int} {K : Value → Prop} {h : Heap} : headq P (.bin .eql t c d (.int k a) (.int k b)) K h = K (.bool (a == b)) := ans_eql.headq K
theorem tkEq {x : X} {K : Value → Prop} {h : Heap} : tk P (fun h' => h' = h) x K h = headq P x K h :=
  propext ⟨fun ⟨v, _, e, hk⟩ => ⟨v, e h rfl, hk⟩, fun ⟨v, e, hk⟩ => ⟨v, rfl, fun h' hh => hh ▸ e, hk⟩⟩
theorem setC_same {h : Heap} {b e : Nat} {z : Nat × Nat} {v : Value} (hb : h[b]? = some (.cells #[v] e z)) : setC h ⟨b, 0, none⟩ v = h := by
  refine Array.ext_getElem? fun i => ?_
  by_cases hi : i = b
  · subst hi; rw [setC_get _ _ hb, hb]; rfl
  · rw [setC_get_ne _ _ _ hi]
/-- what the two closures keep -/
structure WS (m bo bi bop bou : Nat) (h : Heap) (e op ou : List Nat) : Prop where
  ok : h[bo]? = some (.cells #[.bool true] 4 (0, 0))
  ex : ∃ vi vo vu, h[bi]? = some (.cells #[vi] 22 (0, 0)) ∧ h[bop]? = some (.cells #[vo] 22 (0, 0)) ∧ h[bou]? = some (.cells #[vu] 22 (0, 0)) ∧ Nw m h vi e ∧ Nw m h vo op ∧ Nw m h vu ou ∧
    (∀ c, blkOf vi = some c → blkOf vo ≠ some c) ∧ (∀ c, blkOf vi = some c → blkOf vu ≠ some c) ∧ (∀ c, blkOf vo = some c → blkOf vu ≠ some c)
structure Bks (m bo be bi bop bou : Nat) : Prop where
  o : bo < m
  e : be < m
  i : bi < m
  p : bop < m
  u : bou < m
  n1 : bo ≠ bi
  n2 : bo ≠ bop
  n3 : bo ≠ bou
  n4 : bi ≠ bop
  n5 : bi ≠ bou
  n6 : bop ≠ bou
  n7 : be ≠ bi
  n8 : be ≠ bop
  n9 : be ≠ bou
theorem Nw.kp {m : Nat} {h h' : Heap} {v : Value} {l : List Nat} (N : Nw m h v l) (hk : ∀ c, blkOf v = some c → h'[c]? = h[c]?) : Nw m h' v l := ⟨N.own.keep hk, N.lo⟩
/-- one more, the part at hand -/
theorem run_push {m : Nat} {h : Heap} {lv : Value} {l : List Nat} {x bu : Nat} (W : Nw m h lv l) (U : h[bu]? = some (.cells #[R x] 41 (0, 0))) (hl : (l.length + 1) * 8 ≤ 140737488355328) (hb : m ≤ h.size) {K : Value → Heap → Prop}
    (hk : ∀ v h', Nw m h' v (l ++ [x]) → (∀ c, c < h.size → blkOf lv ≠ some c → h'[c]? = h[c]?) → h.size ≤ h'.size → (∀ c, blkOf v = some c → blkOf lv = some c ∨ h.size ≤ c) → K v h') :
    run P (.builtin .append #[22, 22] 22 [false, false] [lv, .slice (some ⟨bu, 0, none⟩) 1 1]) K h := by
  have sw : Sl h (.slice (some ⟨bu, 0, none⟩) 1 1) [R x] := Row.sl (Row.mk' U)
  refine run_append1 eRef W.own sw (by simp [oneC]) (by simp; omega) (by simp; omega) fun v h2 o2 c2 b2 => ?_
  refine hk v h2 ⟨by simpa using o2, fun c hc => ?_⟩ (fun c hc hne => c2.get c hc hne) c2.size b2
  rcases b2 c hc with h' | h'
  · exact W.lo c h'
  · omega
theorem Nw.cut {m : Nat} {h : Heap} {v : Value} {l : List Nat} {x : Nat} (N : Nw m h v (l ++ [x])) : ∃ w, (∀ K h', run P (.slice 22 v none (some (I l.length)) none) K h' = K w h') ∧ Nw m h w l ∧ ∀ c, blkOf w = some c → blkOf v = some c := by
  have hlo := N.lo
  rcases N.own with ⟨_, h0⟩ | ⟨b, cap, rfl, r⟩
  · simp at h0
  · have hcap : (l ++ [x]).length ≤ cap := by have := r.le; simpa using this
    simp only [List.length_append, List.length_cons, List.length_nil] at hcap
    refine ⟨.slice (some ⟨b, 0, none⟩) l.length cap, fun K h' => ?_, ⟨.inr ⟨b, cap, by simp, ?_⟩, fun c hc => hlo c hc⟩, fun c hc => hc⟩
    · have := ans_slice (P := P) s22 (ao := some ⟨b, 0, none⟩) (n := ((l ++ [x]).map R).length) (c := cap) (lo := none) (hi := some (I l.length)) (l := 0) (m := l.length) (.inl ⟨rfl, rfl⟩) (.inr ⟨_, rfl⟩) (by omega) (by omega) (h := h')
      rw [this.run, if_neg (by omega), Option.map_some, Addr.add_add0]
      simp
    · have := r.take l.length
      rw [← List.map_take, List.take_left' rfl] at this
      exact this
/-- both are appended to, in whichever order -/
theorem enter_both {m bo be bi bop bou : Nat} (B : Bks m bo be bi bop bou) {h : Heap} {e op ou : List Nat} {x : Nat} (W : WS m bo bi bop bou h e op ou) (hm : m ≤ h.size)
    (hle : e.length ≤ 100000) (hlo : op.length ≤ 100000) {Q : Hv.F → Heap → Prop} {F1 F2 F3 : Value → Value → Value → Value → Value → Value → Value → Value → Hv.F}
    (hQ : ∀ f h', WS m bo bi bop bou h' (e ++ [x]) (op ++ [x]) ou → h.size ≤ h'.size → (∀ c, c < m → c ≠ bi → c ≠ bop → h'[c]? = h[c]?) → Q f h') :
    ∃ St : Heap → Prop,
  tk P St (X.load 22 (.pointer (some ⟨bi, 0, none⟩))) (fun v30 =>
  tf P (X.move (R x)) (fun v31 =>
  tk P St (X.load 22 (.pointer (some ⟨bop, 0, none⟩))) (fun v34 =>
  tf P (X.move (R x)) (fun v35 =>
  (
    run P (X.buildSlice 22 1 [(0, v31)]) (fun v32 h => St h ∧ (
    (
      run P (X.builtin .append #[22, 22] 22 [false, false] [v30, v32]) (fun v33 h => St h ∧ (
      run P (X.buildSlice 22 1 [(0, v35)]) (fun v36 h => St h ∧ (
      run P (X.builtin .append #[22, 22] 22 [false, false] [v34, v36]) (fun v37 h => St h ∧ (
      run P (X.store 22 (.pointer (some ⟨bi, 0, none⟩)) v33) (fun _ h =>
      run P (X.store 22 (.pointer (some ⟨bop, 0, none⟩)) v37) (fun _ h =>
      Q (F1 v30 v31 v34 v35 v32 v33 v36 v37) h
      ) h
      ) h
      )) h
      )) h
      )) h
    ) ∧ (
      run P (X.buildSlice 22 1 [(0, v35)]) (fun v36 h => St h ∧ (
      run P (X.builtin .append #[22, 22] 22 [false, false] [v30, v32]) (fun v33 h => St h ∧ (
      run P (X.builtin .append #[22, 22] 22 [false, false] [v34, v36]) (fun v37 h => St h ∧ (
      run P (X.store 22 (.pointer (some ⟨bi, 0, none⟩)) v33) (fun _ h =>
      run P (X.store 22 (.pointer (some ⟨bop, 0, none⟩)) v37) (fun _ h =>
      Q (F2 v30 v31 v34 v35 v32 v33 v36 v37) h
      ) h
      ) h
      )) h
      )) h
      )) h
    )
    )) h
  ) ∧ (
    run P (X.buildSlice 22 1 [(0, v35)]) (fun v36 h => St h ∧ (
    run P (X.buildSlice 22 1 [(0, v31)]) (fun v32 h => St h ∧ (
    run P (X.builtin .append #[22, 22] 22 [false, false] [v30, v32]) (fun v33 h => St h ∧ (
    run P (X.builtin .append #[22, 22] 22 [false, false] [v34, v36]) (fun v37 h => St h ∧ (
    run P (X.store 22 (.pointer (some ⟨bi, 0, none⟩)) v33) (fun _ h =>
    run P (X.store 22 (.pointer (some ⟨bop, 0, none⟩)) v37) (fun _ h =>
    Q (F3 v30 v31 v34 v35 v32 v33 v36 v37) h
    ) h
    ) h
    )) h
    )) h
    )) h
    )) h
  )
  )
  ) h
  )
  ) h := by
  obtain ⟨hok, vi, vo, vu, hvi, hvo, hvu, Ni, No, Nu, d1, d2, d3⟩ := W
  obtain ⟨b1, b2, b3, b4, b5, n1, n2, n3, n4, n5, n6, n7, n8, n9⟩ := B
  have i0 : h[bi]? = h[bi]? ∧ h[bop]? = h[bop]? := ⟨rfl, rfl⟩
  refine ⟨fun h' => h'[bi]? = h[bi]? ∧ h'[bop]? = h[bop]?, ?_⟩
  refine tk_of vi i0 (fun h' hh => ans_load o22 (cell_at (hh.1.trans hvi) (v := vi) rfl)) ?_
  simp only [opsf P]
  refine tk_of vo i0 (fun h' hh => ans_load o22 (cell_at (hh.2.trans hvo) (v := vo) rfl)) ?_
  try simp only [opsf P]
  -- the stores
  have fin : ∀ {hx : Heap} {wi wo : Value} {G : Hv.F}, (∀ c, c < h.size → blkOf vi ≠ some c → blkOf vo ≠ some c → hx[c]? = h[c]?) → h.size ≤ hx.size → Nw m hx wi (e ++ [x]) → Nw m hx wo (op ++ [x]) → (∀ c, blkOf wi = some c → blkOf vi = some c ∨ h.size ≤ c) → (∀ c, blkOf wo = some c → blkOf vo = some c ∨ h.size ≤ c) → (∀ c, blkOf wi = some c → blkOf wo ≠ some c) →
      run P (X.store 22 (.pointer (some ⟨bi, 0, none⟩)) wi) (fun _ h => run P (X.store 22 (.pointer (some ⟨bop, 0, none⟩)) wo) (fun _ h => Q G h) h) hx := by
    intro hx wi wo G kk s2 Wi Wo bi' bo' dd
    have km : ∀ c, c < m → hx[c]? = h[c]? := fun c hc => kk c (by omega) (fun e' => by have := Ni.lo c e'; omega) (fun e' => by have := No.lo c e'; omega)
    have xi := (km bi b3).trans hvi
    have xo := (km bop b4).trans hvo
    have xu := (km bou b5).trans hvu
    refine Hv.run_store o22 Wi.one (cell_at xi (v := vi) rfl) (by simp [froz, xi]) ?_
    have yo : (setC hx ⟨bi, 0, none⟩ wi)[bop]? = some (.cells #[vo] 22 (0, 0)) := by rw [setC_get_ne _ _ _ (by simpa using Ne.symm n4)]; exact xo
    refine Hv.run_store o22 Wo.one (cell_at yo (v := vo) rfl) (by simp [froz, yo]) ?_
    have z : ∀ c, c ≠ bi → c ≠ bop → (setC (setC hx ⟨bi, 0, none⟩ wi) ⟨bop, 0, none⟩ wo)[c]? = hx[c]? := fun c h1 h2 => by rw [setC_get_ne _ _ _ (by simpa using h2), setC_get_ne _ _ _ (by simpa using h1)]
    have zz : ∀ {v : Value} {l : List Nat}, Nw m hx v l → Nw m (setC (setC hx ⟨bi, 0, none⟩ wi) ⟨bop, 0, none⟩ wo) v l := fun N => N.kp fun c hc => z c (by have := N.lo c hc; omega) (by have := N.lo c hc; omega)
    have Nu' : Nw m hx vu ou := Nu.kp fun c hc => kk c (Nu.own.lt hc) (fun e' => d2 c e' hc) (fun e' => d3 c e' hc)
    refine hQ _ _ ⟨by rw [z bo n1 n2, km bo b1]; exact hok, wi, wo, vu, ?_, ?_, by rw [z bou (Ne.symm n5) (Ne.symm n6)]; exact xu, zz Wi, zz Wo, zz Nu', dd, fun c hc e' => ?_, fun c hc e' => ?_⟩ (by rw [setC_size, setC_size]; omega) (fun c hc h1 h2 => by rw [z c h1 h2, km c hc])
    · rw [setC_get_ne _ _ _ (by simpa using n4), setC_get _ _ xi]; rfl
    · rw [setC_get _ _ yo]; rfl
    · rcases bi' c hc with h' | h'
      · exact d2 c h' e'
      · have := Nu.own.lt e'; omega
    · rcases bo' c hc with h' | h'
      · exact d3 c h' e'
      · have := Nu.own.lt e'; omega
  have hl1 : (e.length + 1) * 8 ≤ 140737488355328 := by omega
  have hl2 : (op.length + 1) * 8 ≤ 140737488355328 := by omega
  have St0 : ∀ {h' : Heap}, (∀ c, c < h.size → blkOf vi ≠ some c → blkOf vo ≠ some c → h'[c]? = h[c]?) → h'[bi]? = h[bi]? ∧ h'[bop]? = h[bop]? := fun k =>
    ⟨k bi (by omega) (fun e' => by have := Ni.lo _ e'; omega) (fun e' => by have := No.lo _ e'; omega), k bop (by omega) (fun e' => by have := Ni.lo _ e'; omega) (fun e' => by have := No.lo _ e'; omega)⟩
  have li : ∀ c, blkOf vi = some c → c < h.size := fun c hc => Ni.own.lt hc
  have lo : ∀ c, blkOf vo = some c → c < h.size := fun c hc => No.own.lt hc
  refine ⟨run_buildSlice1 eRef rfl ⟨St0 fun c hc _ _ => get_push_old _ _ hc, ?_, ?_⟩, run_buildSlice1 eRef rfl ⟨St0 fun c hc _ _ => get_push_old _ _ hc, ?_⟩⟩
  · -- one, then the other
    refine run_push (Ni.kp fun c hc => get_push_old _ _ (li c hc)) (get_push_new _ _) hl1 (by simp; omega) fun v33 h2 W33 k33 s33 b33 => ?_
    simp only [Array.size_push] at k33 s33 b33
    have t2 : ∀ c, c < h.size → blkOf vi ≠ some c → h2[c]? = h[c]? := fun c hc h1 => (k33 c (by omega) h1).trans (get_push_old _ _ hc)
    refine ⟨St0 fun c hc h1 _ => t2 c hc h1, ?_⟩
    have t3 : ∀ c, c < h.size → blkOf vi ≠ some c → (h2.push (.cells #[R x] 41))[c]? = h[c]? := fun c hc h1 => (get_push_old _ _ (by omega)).trans (t2 c hc h1)
    refine run_buildSlice1 eRef rfl ⟨St0 fun c hc h1 _ => t3 c hc h1, ?_⟩
    refine run_push (No.kp fun c hc => t3 c (lo c hc) (fun e' => d1 c e' hc)) (get_push_new _ _) hl2 (by simp; omega) fun v37 h4 W37 k37 s37 b37 => ?_
    simp only [Array.size_push] at k37 s37 b37
    have t4 : ∀ c, c < h.size → blkOf vi ≠ some c → blkOf vo ≠ some c → h4[c]? = h[c]? := fun c hc h1 h2 => (k37 c (by omega) h2).trans (t3 c hc h1)
    refine ⟨St0 t4, ?_⟩
    have dd : ∀ c, blkOf v33 = some c → blkOf vo ≠ some c := fun c hc e' => by
      rcases b33 c hc with h' | h'
      · exact d1 c h' e'
      · have := lo c e'; omega
    refine fin t4 (by omega) (W33.kp fun c hc => (k37 c (by have := W33.own.lt hc; omega) (dd c hc)).trans (get_push_old _ _ (W33.own.lt hc))) W37 (fun c hc => (b33 c hc).imp id fun h' => by omega) (fun c hc => (b37 c hc).imp id fun h' => by omega) fun c hc e' => ?_
    rcases b37 c e' with h' | h'
    · exact dd c hc h'
    · have := W33.own.lt hc; omega
  · refine run_buildSlice1 eRef rfl ⟨St0 fun c hc _ _ => (get_push_old _ _ (by simp; omega)).trans (get_push_old _ _ hc), ?_⟩
    have t1 : ∀ c, c < h.size → ((h.push (.cells #[R x] 41)).push (.cells #[R x] 41))[c]? = h[c]? := fun c hc => (get_push_old _ _ (by simp; omega)).trans (get_push_old _ _ hc)
    have u1 : ((h.push (.cells #[R x] 41)).push (.cells #[R x] 41))[h.size]? = some (.cells #[R x] 41 (0, 0)) := (get_push_old _ _ (by simp)).trans (get_push_new _ _)
    have u2 : ((h.push (.cells #[R x] 41)).push (.cells #[R x] 41))[h.size + 1]? = some (.cells #[R x] 41 (0, 0)) := by have := get_push_new (h.push (.cells #[R x] 41)) (.cells #[R x] 41); rwa [Array.size_push] at this
    have q1 : ((h.push (.cells #[R x] 41)).push (.cells #[R x] 41)).size = h.size + 2 := by simp
    rw [Array.size_push]
    generalize (h.push (.cells #[R x] 41)).push (.cells #[R x] 41) = h1 at *
    refine run_push (Ni.kp fun c hc => t1 c (li c hc)) u1 hl1 (by omega) fun v33 h2 W33 k33 s33 b33 => ?_
    have t2 : ∀ c, c < h.size → blkOf vi ≠ some c → h2[c]? = h[c]? := fun c hc h1 => (k33 c (by omega) h1).trans (t1 c hc)
    refine ⟨St0 fun c hc h1 _ => t2 c hc h1, ?_⟩
    refine run_push (No.kp fun c hc => t2 c (lo c hc) (fun e' => d1 c e' hc)) ((k33 (h.size + 1) (by omega) (fun e' => by have := li _ e'; omega)).trans u2) hl2 (by omega) fun v37 h4 W37 k37 s37 b37 => ?_
    have t4 : ∀ c, c < h.size → blkOf vi ≠ some c → blkOf vo ≠ some c → h4[c]? = h[c]? := fun c hc h1 h2 => (k37 c (by omega) h2).trans (t2 c hc h1)
    refine ⟨St0 t4, ?_⟩
    have dd : ∀ c, blkOf v33 = some c → blkOf vo ≠ some c := fun c hc e' => by
      rcases b33 c hc with h' | h'
      · exact d1 c h' e'
      · have := lo c e'; omega
    refine fin t4 (by omega) (W33.kp fun c hc => (k37 c (W33.own.lt hc) (dd c hc))) W37 (fun c hc => (b33 c hc).imp id fun h' => by omega) (fun c hc => (b37 c hc).imp id fun h' => by omega) fun c hc e' => ?_
    rcases b37 c e' with h' | h'
    · exact dd c hc h'
    · have := W33.own.lt hc; omega
  · refine run_buildSlice1 eRef rfl ⟨St0 fun c hc _ _ => (get_push_old _ _ (by simp; omega)).trans (get_push_old _ _ hc), ?_⟩
    have t1 : ∀ c, c < h.size → ((h.push (.cells #[R x] 41)).push (.cells #[R x] 41))[c]? = h[c]? := fun c hc => (get_push_old _ _ (by simp; omega)).trans (get_push_old _ _ hc)
    have u1 : ((h.push (.cells #[R x] 41)).push (.cells #[R x] 41))[h.size]? = some (.cells #[R x] 41 (0, 0)) := (get_push_old _ _ (by simp)).trans (get_push_new _ _)
    have u2 : ((h.push (.cells #[R x] 41)).push (.cells #[R x] 41))[h.size + 1]? = some (.cells #[R x] 41 (0, 0)) := by have := get_push_new (h.push (.cells #[R x] 41)) (.cells #[R x] 41); rwa [Array.size_push] at this
    have q1 : ((h.push (.cells #[R x] 41)).push (.cells #[R x] 41)).size = h.size + 2 := by simp
    rw [Array.size_push]
    generalize (h.push (.cells #[R x] 41)).push (.cells #[R x] 41) = h1 at *
    refine run_push (Ni.kp fun c hc => t1 c (li c hc)) u2 hl1 (by omega) fun v33 h2 W33 k33 s33 b33 => ?_
    have t2 : ∀ c, c < h.size → blkOf vi ≠ some c → h2[c]? = h[c]? := fun c hc h1 => (k33 c (by omega) h1).trans (t1 c hc)
    refine ⟨St0 fun c hc h1 _ => t2 c hc h1, ?_⟩
    refine run_push (No.kp fun c hc => t2 c (lo c hc) (fun e' => d1 c e' hc)) ((k33 h.size (by omega) (fun e' => by have := li _ e'; omega)).trans u1) hl2 (by omega) fun v37 h4 W37 k37 s37 b37 => ?_
    have t4 : ∀ c, c < h.size → blkOf vi ≠ some c → blkOf vo ≠ some c → h4[c]? = h[c]? := fun c hc h1 h2 => (k37 c (by omega) h2).trans (t2 c hc h1)
    refine ⟨St0 t4, ?_⟩
    have dd : ∀ c, blkOf v33 = some c → blkOf vo ≠ some c := fun c hc e' => by
      rcases b33 c hc with h' | h'
      · exact d1 c h' e'
      · have := lo c e'; omega
    refine fin t4 (by omega) (W33.kp fun c hc => (k37 c (W33.own.lt hc) (dd c hc))) W37 (fun c hc => (b33 c hc).imp id fun h' => by omega) (fun c hc => (b37 c hc).imp id fun h' => by omega) fun c hc e' => ?_
    rcases b37 c e' with h' | h'
    · exact dd c hc h'
    · have := W33.own.lt hc; omega
/-- the closure that is called at a node's entry -/
theorem enter_spec {m n bo be bi bop bou : Nat} (B : Bks m bo be bi bop bou) {h : Heap} {e op ou : List Nat} {ev : Value} {E : List (Nat × Nat)} {x : Nat} (W : WS m bo bi bop bou h e op ou) (hev : h[be]? = some (.cells #[ev] 23 (0, 0))) (T : Ed n h ev E) (hm : m ≤ h.size)
    (hle : e.length ≤ 100000) (hlo : op.length ≤ 100000) (hlE : E.length ≤ 16384) (hx : x ∉ e) (hop : ∀ y, op.getLast? = some y → (y, x) ∈ E) :
    HCalls P 28 #[R x, .pointer (some ⟨bo, 0, none⟩), .pointer (some ⟨bi, 0, none⟩), .pointer (some ⟨bop, 0, none⟩), .pointer (some ⟨be, 0, none⟩)] h fun v h' => v = .bool true ∧ WS m bo bi bop bou h' (e ++ [x]) (op ++ [x]) ou ∧ h.size ≤ h'.size ∧ ∀ c, c < m → c ≠ bi → c ≠ bop → h'[c]? = h[c]? := by
  obtain ⟨hok, vi, vo, vu, hvi, hvo, hvu, Ni, No, Nu, d1, d2, d3⟩ := W
  refine oncef1_ok ?_
  unfold oncef1_c0
  refine ⟨fun h' => h' = h, ?_⟩
  have c1 : cell h ⟨bo, 0, none⟩ = some (.bool true) := cell_at hok (v := .bool true) rfl
  have c2 : cell h ⟨bi, 0, none⟩ = some vi := cell_at hvi (v := vi) rfl
  have c3 : cell h ⟨bop, 0, none⟩ = some vo := cell_at hvo (v := vo) rfl
  have c4 : cell h ⟨be, 0, none⟩ = some ev := cell_at hev (v := ev) rfl
  have fin : ∀ (f : Hv.F) (h' : Heap), WS m bo bi bop bou h' (e ++ [x]) (op ++ [x]) ou → h.size ≤ h'.size → (∀ c, c < m → c ≠ bi → c ≠ bop → h'[c]? = h[c]?) → oncef1_c1 (post [.tmp 6] fun v h' => v = .bool true ∧ WS m bo bi bop bou h' (e ++ [x]) (op ++ [x]) ou ∧ h.size ≤ h'.size ∧ ∀ c, c < m → c ≠ bi → c ≠ bop → h'[c]? = h[c]?) f h' := fun f h' W' s' k' => by
    unfold oncef1_c1
    exact post_ret1 ⟨rfl, W', s', k'⟩
  have WW : WS m bo bi bop bou h e op ou := ⟨hok, vi, vo, vu, hvi, hvo, hvu, Ni, No, Nu, d1, d2, d3⟩
  simp only [fr, tkEq, load_headq o4 c1, load_headq o22 c2, ops P, bb, if_true]
  refine run_callF hb18 ((has_spec Ni.rs (by omega) x).mono ?_)
  rintro _ h2 ⟨rfl, e2⟩
  subst e2
  simp only [tkEq, decide_eq_false hx, ops P, bb, if_true, load_headq o22 c3, (anyh (No.rs.lx false)).2.1]
  have e4 : (true == false) = false := rfl
  have e5 : (false == false) = true := rfl
  rcases List.eq_nil_or_concat op with rfl | ⟨l, y, hlc⟩
  · have e1 : ((([] : List Nat).length : Nat) : Int) = 0 := rfl
    have e2 : ((0 : Int) == 0) = true := rfl
    simp only [e1, e2, e4, hqEql, tkEq, ops P, bb, if_true, true_and, and_true]
    refine Hv.run_store o4 rfl c1 (by simp [froz, hok]) ?_
    rw [setC_same hok]
    refine ⟨rfl, enter_both B WW hm hle hlo (Q := oncef1_c1 _) fin⟩
  · rw [List.concat_eq_append] at hlc
    subst hlc
    have hey := hop y (by simp)
    have e1 : ((((l ++ [y]).length : Nat) : Int) == 0) = false := by simp; omega
    have e6 : IntKind.i64.wrap ((((l ++ [y]).length : Nat) : Int) - 1) = ((l.length : Nat) : Int) := by
      rw [show (((l ++ [y]).length : Nat) : Int) - 1 = (l.length : Int) by simp]; exact wI (by simp at hlo; omega)
    obtain ⟨p, i1, p1, _⟩ := No.rs.ax (i := l.length) (x := y) (by simp) .i64
    simp only [e1, e4, e5, e6, hqEql, tkEq, ops P, bb, if_true, if_false, true_and, and_true, load_headq o23 c4, load_headq o22 c3, (anyh (No.rs.lx false)).2.1, (anyh i1).2.1, load_headq o41 p1]
    refine run_callF hb17 ((edge_spec T (by omega) y x).mono ?_)
    rintro _ h3 ⟨rfl, e3⟩
    subst e3
    simp only [tkEq, decide_eq_true hey, ops P, bb, if_true, if_false, true_and, and_true]
    refine Hv.run_store o4 rfl c1 (by simp [froz, hok]) ?_
    rw [setC_same hok]
    refine ⟨rfl, enter_both B WW hm hle hlo (Q := oncef1_c1 _) fin⟩
/-- the closure that is called when a node is left -/
theorem leave2_spec {m bo be bi bop bou : Nat} (B : Bks m bo be bi bop bou) {h : Heap} {e op ou : List Nat} {x : Nat} (W : WS m bo bi bop bou h e (op ++ [x]) ou) (hm : m ≤ h.size)
    (hlo : op.length ≤ 100000) (hlu : ou.length ≤ 100000) :
    HCalls P 29 #[R x, .pointer (some ⟨bo, 0, none⟩), .pointer (some ⟨bop, 0, none⟩), .pointer (some ⟨bou, 0, none⟩)] h fun v h' => v = .bool true ∧ WS m bo bi bop bou h' e op (ou ++ [x]) ∧ h.size ≤ h'.size ∧ ∀ c, c < m → c ≠ bop → c ≠ bou → h'[c]? = h[c]? := by
  obtain ⟨hok, vi, vo, vu, hvi, hvo, hvu, Ni, No, Nu, d1, d2, d3⟩ := W
  obtain ⟨b1, b2, b3, b4, b5, n1, n2, n3, n4, n5, n6, n7, n8, n9⟩ := B
  refine oncef2_ok ?_
  unfold oncef2_c0
  have c1 : cell h ⟨bo, 0, none⟩ = some (.bool true) := cell_at hok (v := .bool true) rfl
  have c3 : cell h ⟨bop, 0, none⟩ = some vo := cell_at hvo (v := vo) rfl
  have e1 : decide ((0 : Int) < (((op ++ [x]).length : Nat) : Int)) = true := decide_eq_true (by simp)
  have e6 : IntKind.i64.wrap ((((op ++ [x]).length : Nat) : Int) - 1) = ((op.length : Nat) : Int) := by
    rw [show (((op ++ [x]).length : Nat) : Int) - 1 = (op.length : Int) by simp]; exact wI (by omega)
  have e2 : ((x : Int) == (x : Int)) = true := by simp
  obtain ⟨p, i1, p1, _⟩ := No.rs.ax (i := op.length) (x := x) (by simp) .i64
  simp only [fr, load_run o4 c1, load_run o22 c3, ops P, bb, when_t, (No.rs.len false).1, e1, e6, e2, (anyh i1).1, load_run o41 p1, if_true]
  refine Hv.run_store o4 rfl c1 (by simp [froz, hok]) ?_
  rw [setC_same hok]
  obtain ⟨w, hw, Nw', bw⟩ := No.cut
  simp only [load_run o22 c3, ops P, bb, when_t, (No.rs.len false).1, e1, e6, if_true, hw]
  have hwv : oneC w = true := Nw'.one
  refine Hv.run_store o22 hwv c3 (by simp [froz, hvo]) ?_
  have yu : (setC h ⟨bop, 0, none⟩ w)[bou]? = some (.cells #[vu] 22 (0, 0)) := by rw [setC_get_ne _ _ _ (by simpa using Ne.symm n6)]; exact hvu
  have z1 : ∀ c, c ≠ bop → (setC h ⟨bop, 0, none⟩ w)[c]? = h[c]? := fun c hc => setC_get_ne _ _ _ (by simpa using hc)
  have Nu1 : Nw m (setC h ⟨bop, 0, none⟩ w) vu ou := Nu.kp fun c hc => z1 c (by have := Nu.lo c hc; omega)
  unfold oncef2_c1
  have c5 : cell (setC h ⟨bop, 0, none⟩ w) ⟨bou, 0, none⟩ = some vu := cell_at yu (v := vu) rfl
  simp only [rdU, reduceIte, Nat.reduceEqDiff, fr, load_run o22 c5]
  refine Nu1.pushB x (by omega) (by rw [setC_size]; exact hm) fun u v h2 N2 k2 s2 b2 => ?_
  rw [setC_size] at k2 s2 b2
  have kk : ∀ c, c < h.size → c ≠ bop → blkOf vu ≠ some c → h2[c]? = h[c]? := fun c hc h1 h3 => (k2 c hc h3).trans (z1 c h1)
  have km : ∀ c, c < m → c ≠ bop → h2[c]? = h[c]? := fun c hc h1 => kk c (by omega) h1 (fun e' => by have := Nu.lo c e'; omega)
  have xu := (km bou b5 (Ne.symm n6)).trans hvu
  have xo : h2[bop]? = some (.cells #[w] 22 (0, 0)) := by
    rw [k2 bop (by omega) (fun e' => by have := Nu.lo _ e'; omega), setC_get _ _ hvo]; rfl
  refine Hv.run_store o22 N2.one (cell_at xu (v := vu) rfl) (by simp [froz, xu]) ?_
  have z2 : ∀ c, c ≠ bou → (setC h2 ⟨bou, 0, none⟩ v)[c]? = h2[c]? := fun c hc => setC_get_ne _ _ _ (by simpa using hc)
  refine post_ret1 ⟨rfl, ⟨by rw [z2 bo n3, km bo b1 n2]; exact hok, vi, w, v, by rw [z2 bi n5, km bi b3 n4]; exact hvi, by rw [z2 bop n6]; exact xo, ?_, ?_, ?_, ?_, ?_, ?_, ?_⟩, by rw [setC_size]; exact s2, fun c hc h1 h3 => by rw [z2 c h3, km c hc h1]⟩
  · rw [setC_get _ _ xu]; rfl
  · exact Ni.kp fun c hc => by rw [z2 c (by have := Ni.lo c hc; omega)]; exact kk c (Ni.own.lt hc) (by have := Ni.lo c hc; omega) (d2 c hc)
  · exact Nw'.kp fun c hc => by rw [z2 c (by have := Nw'.lo c hc; omega)]; exact kk c (Nw'.own.lt hc) (by have := Nw'.lo c hc; omega) (d3 c (bw c hc))
  · exact N2.kp fun c hc => z2 c (by have := N2.lo c hc; omega)
  · exact fun c hc e' => d1 c hc (bw c e')
  · intro c hc e'
    rcases b2 c e' with h' | h'
    · exact d2 c hc h'
    · have := Ni.own.lt hc; omega
  · intro c hc e'
    rcases b2 c e' with h' | h'
    · exact d3 c (bw c hc) h'
    · have := Nw'.own.lt hc; omega
end Go.Proofs.G
open Go Go.Hv
set_option maxRecDepth 100000
namespace Go.Proofs.G
theorem hb28 : hasBody P 28 = true := by kernel_rfl
theorem hb29 : hasBody P 29 = true := by kernel_rfl
theorem hb61 : hasBody P 61 = true := by kernel_rfl
/-- what a walk leaves alone -/
def Kq (m bm bi bop bou : Nat) (h h' : Heap) : Prop := h.size ≤ h'.size ∧ ∀ c, c < m → c ≠ bm → c ≠ bi → c ≠ bop → c ≠ bou → h'[c]? = h[c]?
theorem Kq.refl {m bm bi bop bou : Nat} (h : Heap) : Kq m bm bi bop bou h h := ⟨Nat.le_refl _, fun _ _ _ _ _ _ => rfl⟩
theorem Kq.trans {m bm bi bop bou : Nat} {a b c : Heap} (x : Kq m bm bi bop bou a b) (y : Kq m bm bi bop bou b c) : Kq m bm bi bop bou a c := ⟨Nat.le_trans x.1 y.1, fun d h1 h2 h3 h4 h5 => (y.2 d h1 h2 h3 h4 h5).trans (x.2 d h1 h2 h3 h4 h5)⟩
/-- the two closures' values -/
abbrev fIn (bo be bi bop : Nat) : Value := .func (.func 28) #[] #[.pointer (some ⟨bo, 0, none⟩), .pointer (some ⟨bi, 0, none⟩), .pointer (some ⟨bop, 0, none⟩), .pointer (some ⟨be, 0, none⟩)]
abbrev fOut (bo bop bou : Nat) : Value := .func (.func 29) #[] #[.pointer (some ⟨bo, 0, none⟩), .pointer (some ⟨bop, 0, none⟩), .pointer (some ⟨bou, 0, none⟩)]
theorem Ed.kq {n : Nat} {h h' : Heap} {v : Value} {l : List (Nat × Nat)} (T : Ed n h v l) (hk : ∀ c, c < n → h'[c]? = h[c]?) (hs : h.size ≤ h'.size) : Ed n h' v l := T.keep hk
theorem WS.keep {m bo bi bop bou : Nat} {h h' : Heap} {e op ou : List Nat} (W : WS m bo bi bop bou h e op ou) (hk : ∀ c, c = bo ∨ c = bi ∨ c = bop ∨ c = bou ∨ m ≤ c → c < h.size → h'[c]? = h[c]?) : WS m bo bi bop bou h' e op ou := by
  obtain ⟨hok, vi, vo, vu, hvi, hvo, hvu, Ni, No, Nu, d1, d2, d3⟩ := W
  exact ⟨(hk bo (by simp) (lt_of_get hok)).trans hok, vi, vo, vu, (hk bi (by simp) (lt_of_get hvi)).trans hvi, (hk bop (by simp) (lt_of_get hvo)).trans hvo, (hk bou (by simp) (lt_of_get hvu)).trans hvu,
    Ni.kp fun c hc => hk c (by have := Ni.lo c hc; omega) (Ni.own.lt hc), No.kp fun c hc => hk c (by have := No.lo c hc; omega) (No.own.lt hc), Nu.kp fun c hc => hk c (by have := Nu.lo c hc; omega) (Nu.own.lt hc), d1, d2, d3⟩
set_option maxHeartbeats 1000000 in
theorem walk_spec {n m bm bo be bi bop bou : Nat} {p ev : Value} {g : Gr} {E : List (Nat × Nat)} (w : g.WF) (B : Bks m bo be bi bop bou) (hbm : bm < m) (hnm : n ≤ bm ∧ n ≤ bo ∧ n ≤ bi ∧ n ≤ bop ∧ n ≤ bou) (hne : bm ≠ bo ∧ bm ≠ be ∧ bm ≠ bi ∧ bm ≠ bop ∧ bm ≠ bou) (hE : E.length ≤ 16384) (hto : ∀ a b, b ∈ g.to a → (a, b) ∈ E) :
    ∀ (k : Nat) {h0 : Heap} {frv : Value} {fr e op ou : List Nat}, freeN g e ≤ k → GR n h0 p g → Ed n h0 ev E → h0[be]? = some (.cells #[ev] 23 (0, 0)) → Rs m h0 frv fr → (∀ c, blkOf frv = some c → c ≠ bm ∧ c ≠ bi ∧ c ≠ bop ∧ c ≠ bou) → fr.length ≤ 20000000000000 → (∀ x ∈ fr, x ∈ g.N) → (∀ x ∈ fr, ∀ y, op.getLast? = some y → (y, x) ∈ E) →
      MapR h0 bm R (bmap e) → e.Nodup → (∀ x ∈ e, x ∈ g.N) → op.length ≤ e.length → ou.length ≤ e.length → WS m bo bi bop bou h0 e op ou → m ≤ h0.size →
      HCalls P 61 #[p, frv, .map (some bm), fIn bo be bi bop, fOut bo bop bou] h0 fun v h' => v = .bool true ∧ MapR h' bm R (bmap (deepF g (k + 1) fr e).1) ∧ WS m bo bi bop bou h' (deepF g (k + 1) fr e).1 op (ou ++ (deepF g (k + 1) fr e).2) ∧ Kq m bm bi bop bou h0 h' := by
  intro k
  induction k using Nat.strongRecOn with
  | _ k ih =>
    intro h0 frv fr e op ou hk G T hev S hsep hlen hfr hopx M hen hes hole hoel W0 hm
    obtain ⟨b, nv, c1, c2, es, hs, rfl, A⟩ := G
    have hew := w.few
    refine walk_ok ?_
    unfold walk_c0
    simp only [Hv.fr, (S.len false).1]
    refine lp_up fr.length (fun j f h => f 0 = .pointer (some ⟨b, 0, none⟩) ∧ f 2 = .map (some bm) ∧ f 3 = fIn bo be bi bop ∧ f 4 = fOut bo bop bou ∧ f 13 = frv ∧ f 14 = I fr.length ∧ f 15 = I j ∧ MapR h bm R (bmap ((fr.take j).foldl (deepS g k) (e, [])).1) ∧ WS m bo bi bop bou h ((fr.take j).foldl (deepS g k) (e, [])).1 op (ou ++ ((fr.take j).foldl (deepS g k) (e, [])).2) ∧ Kq m bm bi bop bou h0 h) ⟨rfl, rfl, rfl, rfl, rfl, rfl, rfl, M, by simpa using W0, Kq.refl _⟩ ?_
    rintro j f h Q' hj ⟨f0, f2, f3, f4, f13, f14, f15, M1, W1, K1⟩ on out
    unfold walk_L2
    simp only [f0, f2, f3, f4, f13, f14, f15, ops P, lt_R]
    by_cases hjl : j < fr.length
    rotate_left
    · rw [if_neg (by simpa using hjl)]
      refine out _ _ _ (by simp) ?_
      simp only [ex]
      rw [List.take_of_length_le (by omega)] at M1 W1
      unfold walk_c1
      exact post_ret1 ⟨rfl, M1, W1, K1⟩
    obtain ⟨x, hx⟩ : ∃ x, fr[j]? = some x := ⟨_, List.getElem?_eq_getElem hjl⟩
    have hxfr := List.mem_of_getElem? hx
    have hxN : x ∈ g.N := hfr x hxfr
    have kept : ∀ c, c < n → h[c]? = h0[c]? := fun c hc => K1.2 c (by omega) (by omega) (by omega) (by omega) (by omega)
    have A1 := A.keep (h' := h) kept
    obtain ⟨q', a1, _, a2, a3, a4⟩ := S.at hx .i64
    have hq := hsep _ a3
    rw [if_pos (by simpa using hjl), a1, load_run o41 (show cell h q' = _ from (by unfold cell; rw [K1.2 _ a4 hq.1 hq.2.1 hq.2.2.1 hq.2.2.2]; exact a2))]
    rw [(M1.lookup mBool kR x false).run, alook_bmap]
    simp only [ops P]
    have ok1 : DeepOk g e ((fr.take j).foldl (deepS g k) (e, [])) := by
      have := deepF_ok w (k + 1) (fr.take j) e (fun y hy => hfr y (List.mem_of_mem_take hy)) hen hes
      rwa [deepF_succ] at this
    have hstep : (fr.take (j + 1)).foldl (deepS g k) (e, []) = deepS g k ((fr.take j).foldl (deepS g k) (e, [])) x := by
      rw [take_at hx, List.foldl_append]; rfl
    have fin : ∀ (f' : Hv.F) (h' : Heap), f' 0 = .pointer (some ⟨b, 0, none⟩) → f' 2 = .map (some bm) → f' 3 = fIn bo be bi bop → f' 4 = fOut bo bop bou → f' 13 = frv → f' 14 = I fr.length → f' 15 = I j →
        MapR h' bm R (bmap (deepS g k ((fr.take j).foldl (deepS g k) (e, [])) x).1) → WS m bo bi bop bou h' (deepS g k ((fr.take j).foldl (deepS g k) (e, [])) x).1 op (ou ++ (deepS g k ((fr.take j).foldl (deepS g k) (e, [])) x).2) → Kq m bm bi bop bou h0 h' → walk_c3 Q' f' h' := by
      intro f' h' g0 g2 g3 g4 g13 g14 g15 M' W' K'
      unfold walk_c3
      simp only [g15, ops P]
      rw [← hstep] at M' W'
      exact on _ _ hjl ⟨g0, g2, g3, g4, g13, g14, congrArg _ (wInc (by omega)), M', W', K'⟩
    generalize (fr.take j).foldl (deepS g k) (e, []) = s at *
    by_cases hin : x ∈ s.1
    · simp only [decide_eq_true hin, bb, if_true]
      have es' : deepS g k s x = s := by unfold deepS; rw [if_pos hin]
      rw [es'] at fin
      exact fin _ _ f0 f2 f3 f4 f13 f14 f15 M1 W1 K1
    simp only [decide_eq_false hin, bb, if_false]
    refine M1.update mBool kR x (.bool true) fun h2 M2 C2 s2 => ?_
    rw [aset_bmap hin] at M2
    have k2 : ∀ c, c ≠ bm → h2[c]? = h[c]? := fun c hc => by
      by_cases hcs : c < h.size
      · exact C2.get c hcs hc
      · rw [Array.getElem?_eq_none (by omega), Array.getElem?_eq_none (by omega)]
    have K2 : Kq m bm bi bop bou h0 h2 := K1.trans ⟨by omega, fun c _ h1 _ _ _ => k2 c h1⟩
    have W2 := W1.keep (h' := h2) fun c hc _ => k2 c (by rcases hc with rfl | rfl | rfl | rfl | hc <;> omega)
    obtain ⟨mm, hm1, hm2⟩ := ok1.pre
    have hlen1 := ok1.len
    have hN1 := len_le_of_nodup ok1.nodup ok1.sub
    have kept2 : ∀ c, c < n → h2[c]? = h0[c]? := fun c hc => K2.2 c (by omega) (by omega) (by omega) (by omega) (by omega)
    have T2 := T.kq kept2 K2.1
    have hev2 : h2[be]? = some (.cells #[ev] 23 (0, 0)) := (K2.2 be B.e (Ne.symm hne.2.1) B.n7 B.n8 B.n9).trans hev
    have hels : e.length ≤ s.1.length := by rw [hm1]; simp
    refine run_dyn hb28 ((enter_spec B W2 hev2 T2 (by have := K2.1; omega) (by omega) (by omega) hE hin (hopx x hxfr)).mono ?_)
    rintro _ h3 ⟨rfl, W3, s3, k3⟩
    have K3 : Kq m bm bi bop bou h0 h3 := K2.trans ⟨s3, fun c h1 _ h3 h4 _ => k3 c h1 h3 h4⟩
    have M3 : MapR h3 bm R (bmap (s.1 ++ [x])) := M2.keep (k3 bm hbm hne.2.2.1 hne.2.2.2.1)
    have kept3 : ∀ c, c < n → h3[c]? = h0[c]? := fun c hc => K3.2 c (by omega) (by omega) (by omega) (by omega) (by omega)
    have A3 := A.keep (h' := h3) kept3
    obtain ⟨tv, t1, _, TT⟩ := A3.look x
    simp only [ops P, bb, when_t, (fld P f75_1).1, load_run o72 A3.c1, t1]
    have hlt := freeN_lt hxN hin
    have hle : freeN g s.1 ≤ freeN g e := freeN_le fun y hy => by rw [hm1]; exact List.mem_append_left _ hy
    obtain ⟨k', rfl⟩ : ∃ k', k = k' + 1 := ⟨k - 1, by omega⟩
    have hnn : (s.1 ++ [x]).Nodup := List.nodup_append.2 ⟨ok1.nodup, by simp, fun a ha b hb => by simp at hb; subst hb; intro e; subst e; exact hin ha⟩
    have hss : ∀ y ∈ s.1 ++ [x], y ∈ g.N := fun y hy => by
      rcases List.mem_append.1 hy with hy | hy
      · exact ok1.sub y hy
      · simp at hy; subst hy; exact hxN
    have htl := w.fewt x
    have hev3 : h3[be]? = some (.cells #[ev] 23 (0, 0)) := (K3.2 be B.e (Ne.symm hne.2.1) B.n7 B.n8 B.n9).trans hev
    refine run_callF hb61 ((ih k' (Nat.lt_succ_self _) (e := s.1 ++ [x]) (op := op ++ [x]) (ou := ou ++ s.2) (by omega) ⟨b, nv, c1, c2, es, hs, rfl, A3⟩ (T.kq kept3 K3.1) hev3 (TT.mono (by omega)) (fun c hc => by have := TT.bl c hc; omega) (by omega) (fun y hy => w.sub _ _ hy) (fun y hy z hz => by simp at hz; subst hz; exact hto _ _ hy) M3 hnn hss (by simp; omega) (by simp; omega) W3 (by have := K3.1; omega)).mono ?_)
    rintro _ h4 ⟨rfl, M4, W4, K4⟩
    have ok3 := deepF_ok w (k' + 1) (g.to x) (s.1 ++ [x]) (fun y hy => w.sub _ _ hy) hnn hss
    have hlen3 := ok3.len
    have hN := len_le_of_nodup ok3.nodup ok3.sub
    have es' : deepS g (k' + 1) s x = ((deepF g (k' + 1) (g.to x) (s.1 ++ [x])).1, s.2 ++ (deepF g (k' + 1) (g.to x) (s.1 ++ [x])).2 ++ [x]) := by unfold deepS; rw [if_neg hin]
    rw [es'] at fin
    generalize deepF g (k' + 1) (g.to x) (s.1 ++ [x]) = r at *
    have q4 := K4.1
    have q3 := K3.1
    simp only [List.length_append, List.length_cons, List.length_nil] at hlen3
    simp only [ops P, bb, if_true, if_false]
    have hz1 : (ou ++ s.2 ++ r.2).length ≤ 100000 := by rw [List.length_append, List.length_append]; omega
    have L := leave2_spec (x := x) (op := op) B W4 (by omega) (by omega) hz1
    refine run_dyn hb29 (L.mono ?_)
    rintro _ h5 ⟨rfl, W5, s5, k5⟩
    simp only [ops P, bb, if_true, if_false]
    refine fin _ h5 f0 f2 f3 f4 f13 f14 f15 (M4.keep (k5 bm hbm hne.2.2.2.1 hne.2.2.2.2)) (by simpa using W5) ((K3.trans K4).trans ⟨s5, fun c h1 _ _ h3 h4 => k5 c h1 h3 h4⟩)
end Go.Proofs.G
open Go Go.Hv
set_option maxRecDepth 100000
theorem Go.Hv.HCallsD.mono {P : Program} {g : FuncId} {args : Array Value} {h : Heap} {R R' : Value → Heap → Prop} (hc : HCallsD P g args h R) (hr : ∀ v h', R v h' → R' v h') : HCallsD P g args h R' := fun E w ha =>
  CallsD.mono (hc E w ha) (by rintro e u' w' ⟨rfl, v, h', rfl, ha', hR⟩; exact ⟨rfl, v, h', rfl, ha', hr _ _ hR⟩)
namespace Go.Proofs.G
theorem hb27 : hasBody P 27 = true := by kernel_rfl
theorem hb60 : hasBody P 60 = true := by kernel_rfl
theorem z33 : (P.info? 33).map (·.zero) = some (some (I 0)) := by kernel_rfl
theorem z4 : (P.info? 4).map (·.zero) = some (some (.bool false)) := by kernel_rfl
theorem eqF (a b : Array Value) (g : Nat) (h : Heap) : Ans P (.bin .eql 60 false true (.func (.func g) a b) .nilFunc) (.bool false) h := by unfold Ans; kernel_rfl
theorem res_cell {f : Hv.F} {h : Heap} {a : Nat} {t : TypeId} {p : Addr} {v : Value} (hf : f a = .pointer (some p)) (hc : cell h p = some v) : resOf f h [.cell a t] = some [v] := by
  show (match f a with | .pointer (some p) => (cell h p).bind fun v => (resOf f h []).map (v :: ·) | _ => none) = _
  rw [hf]; simp only [hc]; rfl
/-- what is deferred: nothing is amiss -/
theorem walkf_spec {h : Heap} {bd br : Nat} (hd : h[bd]? = some (.cells #[.bool true] 4 (0, 0))) : HCallsD P 60 #[.pointer (some ⟨bd, 0, none⟩), .pointer (some ⟨br, 0, none⟩)] h fun v h' => h' = h := by
  refine hcallsD_gen (md := walkf_md) follows Try.func60 walkf_code (by kernel_rfl) (by kernel_rfl) (by kernel_rfl) rfl (by kernel_rfl) ?_
  unfold walkf_c0
  have c1 : cell h ⟨bd, 0, none⟩ = some (.bool true) := cell_at hd (v := .bool true) rfl
  simp only [fr, load_run o4 c1, ops P, bb, Bool.not_true, if_false]
  exact ⟨[], rfl, rfl⟩
theorem walkTop_spec {n bo be bi bop bou : Nat} {h0 : Heap} {p ev frv : Value} {g : Gr} {E : List (Nat × Nat)} {us : List Nat} (w : g.WF) (B : Bks h0.size bo be bi bop bou) (hnm : n ≤ bo ∧ n ≤ bi ∧ n ≤ bop ∧ n ≤ bou) (hE : E.length ≤ 16384) (hto : ∀ a b, b ∈ g.to a → (a, b) ∈ E)
    (G : GR n h0 p g) (hev : h0[be]? = some (.cells #[ev] 23 (0, 0))) (T : Ed n h0 ev E) (F : Rs n h0 frv us) (hl : us.length ≤ 20000000000000)
    (hok : h0[bo]? = some (.cells #[.bool true] 4 (0, 0))) (hi : h0[bi]? = some (.cells #[.slice none 0 0] 22 (0, 0))) (hp : h0[bop]? = some (.cells #[.slice none 0 0] 22 (0, 0))) (hu : h0[bou]? = some (.cells #[.slice none 0 0] 22 (0, 0))) :
    HCalls P 27 #[p, frv, fIn bo be bi bop, fOut bo bop bou] h0 fun v h' => (¬ (∀ x ∈ us, x ∈ g.N) ∧ v = I 140 ∧ Old h0.size h0 h') ∨
      ((∀ x ∈ us, x ∈ g.N) ∧ v = I 0 ∧ ∃ m, h0.size ≤ m ∧ WS m bo bi bop bou h' (deepF g (freeN g [] + 1) us []).1 [] (deepF g (freeN g [] + 1) us []).2 ∧ h0.size ≤ h'.size ∧ ∀ c, c < h0.size → c ≠ bi → c ≠ bop → c ≠ bou → h'[c]? = h0[c]?) := by
  obtain ⟨b1, b2, b3, b4, b5, n1, n2, n3, n4, n5, n6, n7, n8, n9⟩ := B
  refine walkTop_ok ?_
  unfold walkTop_c0
  rw [run_alloc z33]
  simp only [fr, (eqF _ _ _ _).run, ops P, bb, when_t, if_false]
  have g1 : ∀ c, c < h0.size → (h0.push (.cells #[I 0] 33))[c]? = h0[c]? := fun c hc => get_push_old _ _ hc
  have v1 : (h0.push (.cells #[I 0] 33))[h0.size]? = some (.cells #[I 0] 33 (0, 0)) := get_push_new _ _
  have q1 : (h0.push (.cells #[I 0] 33)).size = h0.size + 1 := by simp
  rw [show (I 0).cells = #[I 0] from rfl]
  generalize h0.push (.cells #[I 0] 33) = h1 at *
  have O1 : Old h0.size h0 h1 := ⟨by omega, g1⟩
  have hn0 : n ≤ h0.size := by omega
  have G1 := G.old O1 hn0
  have F1 := F.old O1 hn0
  refine run_callF hb56 ((all_spec G1 (by omega) F1 (by omega)).mono ?_)
  rintro _ h2 ⟨rfl, O2⟩
  have q2 := O2.size
  have v2 : h2[h0.size]? = some (.cells #[I 0] 33 (0, 0)) := (O2.get _ (by omega)).trans v1
  have O02 : Old h0.size h0 h2 := O1.trans (O2.mono (by omega))
  simp only [ops P]
  by_cases hall : ∀ x ∈ us, x ∈ g.N
  rotate_left
  · simp only [decide_eq_false hall, ops P, bb, Bool.not_false, if_true]
    refine Hv.run_store o33 rfl (cell_at v2 (v := I 0) rfl) (by simp [froz, v2]) ?_
    have v3 : (setC h2 ⟨h0.size, 0, none⟩ (I 140))[h0.size]? = some (.cells #[I 140] 33 (0, 0)) := by rw [setC_get _ _ v2]; rfl
    refine ⟨[I 140], res_cell rfl (cell_at v3 (i := 0) (v := I 140) rfl), .inl ⟨hall, rfl, ⟨by rw [setC_size]; omega, fun c hc => by rw [setC_get_ne _ _ _ (by simp; omega)]; exact O02.get c hc⟩⟩⟩
  have hd : decide (∀ x ∈ us, x ∈ g.N) = true := decide_eq_true hall
  simp only [hd, ops P, bb, Bool.not_true, if_false]
  rw [run_alloc z4]
  rw [show (Value.bool false).cells = #[.bool false] from rfl]
  refine Hv.run_store o4 rfl (cell_at (get_push_new _ _) (v := .bool false) rfl) (by simp [froz]) ?_
  have g3 : ∀ c, c < h2.size → (setC (h2.push (.cells #[.bool false] 4)) ⟨h2.size, 0, none⟩ (.bool false))[c]? = h2[c]? := fun c hc => (setC_get_ne _ _ _ (by simp; omega)).trans (get_push_old _ _ hc)
  have v3 : (setC (h2.push (.cells #[.bool false] 4)) ⟨h2.size, 0, none⟩ (.bool false))[h2.size]? = some (.cells #[.bool false] 4 (0, 0)) := by rw [setC_get _ _ (get_push_new _ _)]; rfl
  have q3 : (setC (h2.push (.cells #[.bool false] 4)) ⟨h2.size, 0, none⟩ (.bool false)).size = h2.size + 1 := by rw [setC_size]; simp
  generalize setC (h2.push (.cells #[.bool false] 4)) ⟨h2.size, 0, none⟩ (.bool false) = h3 at *
  refine ⟨_, rfl, ?_⟩
  simp only []
  rw [run_mkMap]
  have g4 : ∀ c, c < h3.size → (h3.push (.map #[] 0))[c]? = h3[c]? := fun c hc => get_push_old _ _ hc
  have M4 : MapR (h3.push (.map #[] 0)) h3.size R [] := MapR.new h3 R
  have q4 : (h3.push (.map #[] 0)).size = h3.size + 1 := by simp
  generalize h3.push (.map #[] 0) = h4 at *
  have O04 : Old h0.size h0 h4 := O02.trans ⟨by omega, fun c hc => (g4 c (by omega)).trans (g3 c (by omega))⟩
  have kp : ∀ {c : Nat} {o : Obj}, c < h0.size → h0[c]? = some o → h4[c]? = some o := fun hc ho => (O04.get _ hc).trans ho
  have W4 : WS h4.size bo bi bop bou h4 [] [] [] := ⟨kp b1 hok, _, _, _, kp b3 hi, kp b4 hp, kp b5 hu, Nw.nil _ _, Nw.nil _ _, Nw.nil _ _, (fun c hc => by cases hc), (fun c hc => by cases hc), (fun c hc => by cases hc)⟩
  refine run_callF hb61 ((walk_spec (m := h4.size) (bm := h3.size) w ⟨by omega, by omega, by omega, by omega, by omega, n1, n2, n3, n4, n5, n6, n7, n8, n9⟩ (by omega) (by omega) (by omega) hE hto (freeN g []) (op := []) (e := []) (ou := []) (Nat.le_refl _) (G.old O04 hn0) (T.old O04 hn0) (kp b2 hev) ((F.old O04 hn0).mono (by omega)) (fun c hc => by have := F.bl c hc; omega) hl hall (fun x _ y hy => by cases hy) M4 List.nodup_nil (by simp) (Nat.le_refl _) (Nat.le_refl _) W4 (Nat.le_refl _)).mono ?_)
  rintro _ h5 ⟨rfl, M5, W5, K5⟩
  have q5 := K5.1
  have k5 : ∀ c, c < h4.size → c ≠ h3.size → c ≠ bi → c ≠ bop → c ≠ bou → h5[c]? = h4[c]? := K5.2
  have v5 : h5[h2.size]? = some (.cells #[.bool false] 4 (0, 0)) := by rw [k5 _ (by omega) (by omega) (by omega) (by omega) (by omega), g4 _ (by omega)]; exact v3
  have r5 : h5[h0.size]? = some (.cells #[I 0] 33 (0, 0)) := by rw [k5 _ (by omega) (by omega) (by omega) (by omega) (by omega), g4 _ (by omega), g3 _ (by omega)]; exact v2
  refine Hv.run_store o4 rfl (cell_at v5 (v := .bool false) rfl) (by simp [froz, v5]) ?_
  have g6 : ∀ c, c ≠ h2.size → (setC h5 ⟨h2.size, 0, none⟩ (.bool true))[c]? = h5[c]? := fun c hc => setC_get_ne _ _ _ (by simpa using hc)
  have v6 : (setC h5 ⟨h2.size, 0, none⟩ (.bool true))[h2.size]? = some (.cells #[.bool true] 4 (0, 0)) := by rw [setC_get _ _ v5]; rfl
  have q6 : (setC h5 ⟨h2.size, 0, none⟩ (.bool true)).size = h5.size := setC_size _ _ _
  generalize setC h5 ⟨h2.size, 0, none⟩ (.bool true) = h6 at *
  have r6 : h6[h0.size]? = some (.cells #[I 0] 33 (0, 0)) := (g6 _ (by omega)).trans r5
  refine Hv.run_store o33 rfl (cell_at r6 (v := I 0) rfl) (by simp [froz, r6]) ?_
  rw [show (Value.int .i64 0) = I 0 from rfl, setC_same r6]
  refine ⟨60, _, rfl, hb60, HCallsD.mono (walkf_spec v6) ?_⟩
  rintro _ _ rfl
  refine ⟨[I 0], res_cell rfl (cell_at r6 (i := 0) (v := I 0) rfl), .inr ⟨hall, rfl, h4.size, by omega, by simpa using W5.keep fun c hc hs => g6 c (by omega), by omega, fun c hc h1 h2' h3' => ?_⟩⟩
  · rw [g6 c (by omega), k5 c (by omega) (by omega) h1 h2' h3']; exact O04.get c hc
end Go.Proofs.G
open Go Go.Hv
set_option maxRecDepth 100000
namespace Go.Proofs.G
theorem once_law {n : Nat} {h0 : Heap} {nv ev fv : Value} {N us : List Nat} {E : List (Nat × Nat)} (S : Rs n h0 nv N) (T : Ed n h0 ev E) (F : Rs n h0 fv us) (hus : us.length * 8 ≤ 140737488351232) (hn : n ≤ h0.size) :
    HCalls P 8 #[nv, ev, fv] h0 fun v h' => v = .bool true ∧ Old h0.size h0 h' := by
  refine once_ok ?_
  unfold once_c0
  obtain ⟨ao, cc, hev⟩ : ∃ ao c, ev = .slice ao E.length c := by obtain ⟨ao, c, h1, _⟩ := T.ex; exact ⟨ao, c, h1⟩
  simp only [fr, run_box]
  have hcl : ev.cells = #[ev] := by rw [hev]; rfl
  rw [hcl]
  have O1 : Old h0.size h0 (h0.push (.cells #[ev] 23)) := old_push _ _ (Nat.le_refl _)
  have e1 : (h0.push (.cells #[ev] 23))[h0.size]? = some (.cells #[ev] 23 (0, 0)) := get_push_new _ _
  have q1 : (h0.push (.cells #[ev] 23)).size = h0.size + 1 := by simp
  generalize h0.push (.cells #[ev] 23) = h1 at *
  refine run_callF hb13 ((lives_spec h1).mono ?_)
  rintro _ h2 ⟨rfl, O2⟩
  have q2 := O2.size
  have e2 : h2[h0.size]? = some (.cells #[ev] 23 (0, 0)) := (O2.get _ (by omega)).trans e1
  have O02 : Old h0.size h0 h2 := O1.trans (O2.mono (by omega))
  simp only [ops P, bb, if_false, load_run o23 (cell_at e2 (i := 0) (v := ev) rfl)]
  refine run_callF hb14 ((make_spec (S.old O02 hn) (T.old O02 hn) (by omega)).mono ?_)
  rintro _ h3 ⟨O3, (⟨hne, rfl⟩ | ⟨hok, gb, vv, bt, bh, es, hs, rfl, GM3⟩)⟩
  · simp only [ops P, mk_ne hne, bb, when_f, if_true, (eqP0 _).run]
    exact post_ret1 ⟨rfl, O02.trans (O3.mono (by omega))⟩
  have w := grOf_wf hok
  have q3 := O3.size
  have O03 : Old h0.size h0 h3 := O02.trans (O3.mono (by omega))
  have G3 : GR h3.size h3 (.pointer (some ⟨gb, 0, none⟩)) (grOf N E) := ⟨_, _, _, _, _, _, rfl, GM3.ga⟩
  have hEl := (mk_len hok).2.1
  have hto : ∀ a b, b ∈ (grOf N E).to a → (a, b) ∈ E := fun a b h => (grOf_mem).1 h
  have e3 : h3[h0.size]? = some (.cells #[ev] 23 (0, 0)) := (O3.get _ (by omega)).trans e2
  clear GM3
  generalize grOf N E = g at *
  simp only [ops P, nz0, bb, when_t, if_false, (eqP1 _ _).run]
  have hfew := w.few
  rw [run_alloc z22, run_alloc z22, run_alloc z22, run_alloc z4]
  rw [show (Value.slice none 0 0).cells = #[.slice none 0 0] from rfl, show (Value.bool false).cells = #[.bool false] from rfl]
  obtain ⟨h4, eh4, k4, s4, a4, b4, c4, d4⟩ : ∃ h4 : Heap, (((h3.push (.cells #[.slice none 0 0] 22)).push (.cells #[.slice none 0 0] 22)).push (.cells #[.slice none 0 0] 22)).push (.cells #[.bool false] 4) = h4 ∧ (∀ c, c < h3.size → h4[c]? = h3[c]?) ∧ h4.size = h3.size + 4 ∧
      h4[h3.size]? = some (.cells #[.slice none 0 0] 22 (0, 0)) ∧ h4[h3.size + 1]? = some (.cells #[.slice none 0 0] 22 (0, 0)) ∧ h4[h3.size + 2]? = some (.cells #[.slice none 0 0] 22 (0, 0)) ∧ h4[h3.size + 3]? = some (.cells #[.bool false] 4 (0, 0)) := by
    refine ⟨_, rfl, fun c hc => ?_, by simp, ?_, ?_, ?_, ?_⟩
    · rw [get_push_old _ _ (by simp only [Array.size_push]; omega), get_push_old _ _ (by simp only [Array.size_push]; omega), get_push_old _ _ (by simp only [Array.size_push]; omega), get_push_old _ _ hc]
    · rw [get_push_old _ _ (by simp only [Array.size_push]; omega), get_push_old _ _ (by simp only [Array.size_push]; omega), get_push_old _ _ (by simp only [Array.size_push]; omega), get_push_new]
    · rw [get_push_old _ _ (by simp only [Array.size_push]; omega), get_push_old _ _ (by simp only [Array.size_push]; omega), get_push_at _ _ (by simp)]
    · rw [get_push_old _ _ (by simp only [Array.size_push]; omega), get_push_at _ _ (by simp)]
    · rw [get_push_at _ _ (by simp)]
  simp only [Array.size_push]
  rw [eh4]
  refine Hv.run_store o4 rfl (cell_at d4 (i := 0) (v := .bool false) rfl) (by simp [froz, d4]) ?_
  obtain ⟨h5, eh5, k5, s5, d5⟩ : ∃ h5 : Heap, setC h4 ⟨h3.size + 3, 0, none⟩ (.bool true) = h5 ∧ (∀ c, c ≠ h3.size + 3 → h5[c]? = h4[c]?) ∧ h5.size = h4.size ∧ h5[h3.size + 3]? = some (.cells #[.bool true] 4 (0, 0)) :=
    ⟨_, rfl, fun c hc => setC_get_ne _ _ _ hc, setC_size _ _ _, by rw [setC_get _ _ d4]; rfl⟩
  rw [show h3.size + 1 + 1 + 1 = h3.size + 3 from rfl, show h3.size + 1 + 1 = h3.size + 2 from rfl] at *
  rw [eh5]
  have O35 : Old h3.size h3 h5 := ⟨by omega, fun c hc => (k5 c (by omega)).trans (k4 c hc)⟩
  have O05 : Old h0.size h0 h5 := O03.trans (O35.mono (by omega))
  have a5 := (k5 h3.size (by omega)).trans a4
  have b5 := (k5 (h3.size + 1) (by omega)).trans b4
  have c5 := (k5 (h3.size + 2) (by omega)).trans c4
  clear eh4 eh5
  have e5 : h5[h0.size]? = some (.cells #[ev] 23 (0, 0)) := (O35.get _ (by omega)).trans e3
  have F5 : Rs h3.size h5 fv us := (F.old O05 hn).mono (by omega)
  have T5 : Ed h3.size h5 ev E := by
    have := T.old O05 hn
    obtain ⟨ao, c, h1, h2, h3'⟩ := this.ex
    exact ⟨ao, c, h1, fun a ha => ⟨(h2 a ha).1, by have := (h2 a ha).2; omega⟩, h3'⟩
  have G5 := G3.old O35 (Nat.le_refl _)
  refine run_callF hb27 ((walkTop_spec (bo := h3.size + 3) (be := h0.size) (bi := h3.size) (bop := h3.size + 2) (bou := h3.size + 1) w ⟨by omega, by omega, by omega, by omega, by omega, by omega, by omega, by omega, by omega, by omega, by omega, by omega, by omega, by omega⟩ ⟨by omega, by omega, by omega, by omega⟩ hEl hto G5 e5 T5 F5 (by omega) d5 a5 c5 b5).mono ?_)
  rintro _ h6 (⟨hbad, rfl, O6⟩ | ⟨hall, rfl, m, hm, W6, q6, k6⟩)
  · have q6 := O6.size
    have G6 := (G5.old O6 (by omega)).mono (m := h6.size) (by omega)
    have F6 := (F5.old O6 (by omega)).mono (m := h6.size) (by omega)
    refine run_callF hb24' ((reach_spec G6 w (Nat.le_refl _) F6 (by omega)).mono ?_)
    rintro _ h7 ⟨O7, (⟨_, rfl⟩ | ⟨hgood, _⟩)⟩
    rotate_left
    · exact absurd hgood hbad
    have a7 := (O7.get h3.size (by omega)).trans ((O6.get h3.size (by omega)).trans a5)
    have e140 : (((140 : Nat) : Int) == ((140 : Nat) : Int)) = true := rfl
    simp only [ops P, ne140, if_true, len0, eq00, e140, bb, when_t, load_run o22 (cell_at a7 (i := 0) (v := .slice none 0 0) rfl)]
    exact post_ret1 ⟨rfl, O05.trans ((O6.mono (by omega)).trans (O7.mono (by omega)))⟩
  have g6 : ∀ c, c < h3.size → h6[c]? = h3[c]? := fun c hc => (k6 c (by omega) (by omega) (by omega) (by omega)).trans (O35.get c hc)
  have G6 := (G3.keep (h' := h6) g6).mono (m := h6.size) (by omega)
  have F6 : Rs h6.size h6 fv us := (((F.old O03 hn).mono (m := h3.size) (by omega)).keep (h' := h6) g6).mono (by omega)
  have O06 : Old h0.size h0 h6 := ⟨by omega, fun c hc => (g6 c (by omega)).trans (O03.get c hc)⟩
  refine run_callF hb24' ((reach_spec G6 w (Nat.le_refl _) F6 (by omega)).mono ?_)
  rintro _ h7 ⟨O7, (⟨hbad, _⟩ | ⟨_, lv, rfl, NL⟩)⟩
  · exact absurd hall hbad
  have q7 := O7.size
  have O07 : Old h0.size h0 h7 := O06.trans (O7.mono (by omega))
  obtain ⟨hmem, hlen, hperm⟩ := deepF_reach (k := freeN g []) w (Nat.le_refl _) hall
  have W7 := W6.keep (h' := h7) fun c _ hc => O7.get c hc
  generalize deepF g (freeN g [] + 1) us [] = r at *
  obtain ⟨hok7, vi, vo, vu, hvi, hvo, hvu, Ni, No, Nu, _, _, _⟩ := W7
  have hl2 := hperm.length_eq
  have hrl := reach_len w hall
  have c1 : cell h7 ⟨h3.size + 3, 0, none⟩ = some (.bool true) := cell_at hok7 (i := 0) (v := .bool true) rfl
  have c2 : cell h7 ⟨h3.size, 0, none⟩ = some vi := cell_at hvi (i := 0) (v := vi) rfl
  have c3 : cell h7 ⟨h3.size + 2, 0, none⟩ = some vo := cell_at hvo (i := 0) (v := vo) rfl
  have c4 : cell h7 ⟨h3.size + 1, 0, none⟩ = some vu := cell_at hvu (i := 0) (v := vu) rfl
  have lo0 : ((([] : List Nat).length : Nat) : Int) = 0 := rfl
  have nn : ∀ x : Nat, ((x : Int) != (x : Int)) = false := fun x => by simp
  have l1 : ((r.1.length : Nat) : Int) = ((reachF g us).length : Nat) := by rw [hlen]
  have l2 : ((r.2.length : Nat) : Int) = ((reachF g us).length : Nat) := by rw [hl2, hlen]
  have e00 : ((0 : Int) != 0) = false := rfl
  have efl : (false == false) = true := rfl
  simp only [ops P, nz0, bb, if_false, load_run o4 c1, load_run o22 c2, load_run o22 c3, load_run o22 c4, when_t, (Ni.rs.len false).1, (No.rs.len false).1, (Nu.rs.len false).1, (NL.rs.len false).1, lo0, l1, l2, nn, e00, efl]
  refine lp_up (reachF g us).length (fun j f h => f 9 = .pointer (some ⟨h3.size, 0, none⟩) ∧ f 10 = .pointer (some ⟨h3.size + 1, 0, none⟩) ∧ f 14 = lv ∧ f 16 = I j ∧ h = h7) ⟨rfl, rfl, rfl, rfl, rfl⟩ ?_
  rintro j f h Q' hj ⟨f9, f10, f14, f16, rfl⟩ on out
  unfold once_L2
  simp only [f9, f10, f14, f16, (NL.rs.len false).1, ops P, lt_R]
  by_cases hjl : j < (reachF g us).length
  · obtain ⟨y, hy⟩ : ∃ e, (reachF g us)[j]? = some e := ⟨_, List.getElem?_eq_getElem hjl⟩
    obtain ⟨p, i1, p1, _⟩ := NL.rs.ax hy .i64
    have hyr := List.mem_of_getElem? hy
    have y1 : y ∈ r.1 := (hmem y).2 hyr
    have y2 : y ∈ r.2 := hperm.mem_iff.2 y1
    rw [if_pos (by simpa using hjl)]
    simp only [load_still o22 c2, (i1 h).still, load_still o41 p1]
    refine still_callF hb18 _ (has_spec Ni.rs (by omega) y) ?_
    simp only [decide_eq_true y1, ops P, bb, efl, Bool.not_true, load_still o22 c4, (i1 h).still, load_still o41 p1]
    refine still_callF hb18 _ (has_spec Nu.rs (by omega) y) ?_
    simp only [decide_eq_true y2, ops P, bb, if_false, Bool.not_true]
    exact on _ _ hjl ⟨f9, f10, f14, congrArg _ (wInc (by omega)), rfl⟩
  rw [if_neg (by simpa using hjl)]
  refine out _ _ _ (by simp) ?_
  simp only [ex]
  unfold once_c1
  exact post_ret1 ⟨rfl, O07⟩
end Go.Proofs.G
