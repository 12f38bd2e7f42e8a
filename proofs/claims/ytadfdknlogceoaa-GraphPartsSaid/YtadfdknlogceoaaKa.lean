import Derived.WalkKit
import Derived.Deep.Quiet
import Derived.StillTail
import Derived.OrdersHeld
set_option linter.all false
namespace Go.Hv
abbrev Heap := Array Obj

structure Env where
  tape : Nat → Question → Nat
  os : Os
  output : Array (Nat × ByteArray)

/-- the world stands at heap h, in environment E (draws don't count) -/
structure At (E : Env) (h : Heap) (w : World) : Prop where
  heap : w.heap = h
  tape : w.tape = E.tape
  os : w.os = E.os
  output : w.output = E.output

def cell (h : Heap) (a : Addr) : Option Value :=
  match h[a.block]? with
  | some (.cells c _ _) => if a.spot.isSome then none else c[a.off]?
  | _ => none
def shapeOf (h : Heap) (r : Nat) : Option (TypeId × Nat) :=
  match h[r]? with
  | some (.cells c elem _) => some (elem, c.size)
  | _ => none
def froz (h : Heap) (a : Addr) : Bool :=
  match h[a.block]? with
  | some (.cells _ _ (lo, hi)) => lo ≤ a.off && a.off < hi
  | _ => false
def setC (h : Heap) (a : Addr) (v : Value) : Heap := h.modify a.block fun
      | .cells c elem frozen => .cells (if a.spot.isSome then c else c.setIfInBounds a.off v) elem frozen
      | o => o

def oneC : Value → Bool
  | .agg _ | .tuple _ => false
  | _ => true

def sat {α : Type} (Q : α → World → Prop) (X : Halt → World → Prop) : Result α → Prop
  | .ok a w => Q a w
  | .halt e w => X e w

/-- what a piece of Sem comes to, whatever is drawn; loads and stores at plain cells alone -/
def hwp {α : Type} (P : Program) : Sem α → (α → Heap → Prop) → (Halt → Heap → Prop) → Heap → Prop
  | .pure a, Q, _, h => Q a h
  | .load _ a k, Q, X, h => ∃ v, cell h a = some v ∧ hwp P (k v) Q X h
  | .store _ a v k, Q, X, h => oneC v = true ∧ (∃ u, cell h a = some u) ∧ froz h a = false ∧ hwp P k Q X (setC h a v)
  | .new o k, Q, X, h => hwp P (k h.size) Q X (h.push o)
  | .shape r k, Q, X, h => hwp P (k (shapeOf h r)) Q X h
  | .freeze _ _ _, _, _, _ => False
  | .frozen a k, Q, X, h => hwp P (k (froz h a)) Q X h
  | .getObj r k, Q, X, h => ∃ o, h[r]? = some o ∧ (∀ c e f, o ≠ .cells c e f) ∧ hwp P (k o) Q X h
  | .setObj r o k, Q, X, h => (∃ o, h[r]? = some o ∧ (∀ c e f, o ≠ .cells c e f)) ∧ hwp P k Q X (h.setIfInBounds r o)
  | .choose q k, Q, X, h => if q.forced then hwp P (k 0) Q X h else ∀ t, hwp P (k (q.cut t)) Q X h
  | .sys _ _, _, _, _ => False
  | .program k, Q, X, h => hwp P (k P) Q X h
  | .mark _ k, Q, X, h => hwp P k Q X h
  | .halt e, _, X, h => X e h

theorem hwp_bind {α β : Type} (P : Program) (s : Sem α) (g : α → Sem β) (Q : β → Heap → Prop) (X : Halt → Heap → Prop) :
    ∀ h, hwp P (s.bind g) Q X h ↔ hwp P s (fun a h => hwp P (g a) Q X h) X h := by
  induction s with
  | pure a => intro h; rfl
  | load m a k ih => intro h; simp [Sem.bind, hwp, ih]
  | store m a v k ih => intro h; simp [Sem.bind, hwp, ih]
  | new o k ih => intro h; simp [Sem.bind, hwp, ih]
  | shape r k ih => intro h; simp [Sem.bind, hwp, ih]
  | freeze a n k ih => intro h; simp [Sem.bind, hwp]
  | frozen a k ih => intro h; simp [Sem.bind, hwp, ih]
  | getObj r k ih => intro h; simp [Sem.bind, hwp, ih]
  | setObj r o k ih => intro h; simp [Sem.bind, hwp, ih]
  | choose q k ih => intro h; simp [Sem.bind, hwp, ih]
  | sys c k ih => intro h; simp [Sem.bind, hwp]
  | program k ih => intro h; simp [Sem.bind, hwp, ih]
  | mark m k ih => intro h; simp [Sem.bind, hwp, ih]
  | halt e => intro h; simp [Sem.bind, hwp]
theorem hwp_bind' {α β : Type} (P : Program) (s : Sem α) (g : α → Sem β) (Q : β → Heap → Prop) (X : Halt → Heap → Prop) (h : Heap) :
    hwp P (s >>= g) Q X h ↔ hwp P s (fun a h => hwp P (g a) Q X h) X h := hwp_bind P s g Q X h
theorem hwp_pure {α : Type} (P : Program) (a : α) (Q : α → Heap → Prop) (X : Halt → Heap → Prop) (h : Heap) :
    hwp P (pure a : Sem α) Q X h ↔ Q a h := Iff.rfl

theorem hwp_mono {α : Type} {P : Program} {s : Sem α} {Q Q' : α → Heap → Prop} {X X' : Halt → Heap → Prop} :
    ∀ {h}, hwp P s Q X h → (∀ a h, Q a h → Q' a h) → (∀ a h, X a h → X' a h) → hwp P s Q' X' h := by
  induction s with
  | pure a => intro h hh hq hx; exact hq _ _ hh
  | load m a k ih => intro h ⟨v, hv, hh⟩ hq hx; exact ⟨v, hv, ih v hh hq hx⟩
  | store m a v k ih => intro h ⟨h1, h2, h3, hh⟩ hq hx; exact ⟨h1, h2, h3, ih hh hq hx⟩
  | new o k ih => intro h hh hq hx; exact ih _ hh hq hx
  | shape r k ih => intro h hh hq hx; exact ih _ hh hq hx
  | freeze a n k ih => intro h hh hq hx; exact hh
  | frozen a k ih => intro h hh hq hx; exact ih _ hh hq hx
  | getObj r k ih => intro h ⟨o, h1, h2, hh⟩ hq hx; exact ⟨o, h1, h2, ih _ hh hq hx⟩
  | setObj r o k ih => intro h ⟨h1, hh⟩ hq hx; exact ⟨h1, ih hh hq hx⟩
  | choose q k ih =>
    intro h hh hq hx
    simp only [hwp] at hh ⊢
    split
    · rename_i hf; rw [if_pos hf] at hh; exact ih _ hh hq hx
    · rename_i hf; rw [if_neg hf] at hh; exact fun t => ih _ (hh t) hq hx
  | sys c k ih => intro h hh hq hx; exact hh
  | program k ih => intro h hh hq hx; exact ih _ hh hq hx
  | mark m k ih => intro h hh hq hx; exact ih hh hq hx
  | halt e => intro h hh hq hx; exact hx _ _ hh

theorem hwp_sound {α : Type} {P : Program} {s : Sem α} {Q : α → Heap → Prop} {X : Halt → Heap → Prop} {E : Env} :
    ∀ {h w}, hwp P s Q X h → At E h w → sat (fun a w' => ∃ h', At E h' w' ∧ Q a h') (fun e w' => ∃ h', At E h' w' ∧ X e h') (s.run P w) := by
  induction s with
  | pure a => intro h w hh ha; exact ⟨h, ha, hh⟩
  | load m a k ih =>
    intro h w hh ha
    obtain ⟨v, hv, hh⟩ := hh
    obtain ⟨rfl, _, _, _⟩ := ha
    have hc : w.cell? a = some v := hv
    simp only [Sem.run, hc]
    exact ih v hh ⟨rfl, ‹_›, ‹_›, ‹_›⟩
  | store m a v k ih =>
    intro h w hh ha
    obtain ⟨h1, ⟨u, h2⟩, h3, hh⟩ := hh
    obtain ⟨rfl, _, _, _⟩ := ha
    have hc : w.cell? a = some u := h2
    have hf : w.frozen? a = false := h3
    have hr : (Sem.store m a v k).run P w = k.run P (w.setCell a v) := by
      cases v <;> simp_all [Sem.run, oneC]
    rw [hr]
    exact ih hh ⟨rfl, ‹_›, ‹_›, ‹_›⟩
  | new o k ih =>
    intro h w hh ha
    obtain ⟨rfl, _, _, _⟩ := ha
    simp only [Sem.run]
    exact ih _ hh ⟨rfl, ‹_›, ‹_›, ‹_›⟩
  | shape r k ih =>
    intro h w hh ha
    obtain ⟨rfl, _, _, _⟩ := ha
    simp only [Sem.run]
    exact ih _ hh ⟨rfl, ‹_›, ‹_›, ‹_›⟩
  | freeze a n k ih => intro h w hh ha; exact hh.elim
  | frozen a k ih =>
    intro h w hh ha
    obtain ⟨rfl, _, _, _⟩ := ha
    simp only [Sem.run]
    exact ih _ hh ⟨rfl, ‹_›, ‹_›, ‹_›⟩
  | getObj r k ih =>
    intro h w hh ha
    obtain ⟨o, h1, h2, hh⟩ := hh
    obtain ⟨rfl, _, _, _⟩ := ha
    have : (Sem.getObj r k).run P w = (k o).run P w := by
      simp only [Sem.run, h1]
    rw [this]
    exact ih _ hh ⟨rfl, ‹_›, ‹_›, ‹_›⟩
  | setObj r o k ih =>
    intro h w hh ha
    obtain ⟨⟨o', h1, h2⟩, hh⟩ := hh
    obtain ⟨rfl, _, _, _⟩ := ha
    have : (Sem.setObj r o k).run P w = k.run P { w with heap := w.heap.setIfInBounds r o } := by
      simp only [Sem.run, h1]
    rw [this]
    exact ih hh ⟨rfl, ‹_›, ‹_›, ‹_›⟩
  | choose q k ih =>
    intro h w hh ha
    obtain ⟨rfl, _, _, _⟩ := ha
    simp only [hwp] at hh
    simp only [Sem.run]
    split
    · rename_i hf; rw [if_pos hf] at hh; exact ih _ hh ⟨rfl, ‹_›, ‹_›, ‹_›⟩
    · rename_i hf; rw [if_neg hf] at hh; exact ih _ (hh _) ⟨rfl, ‹_›, ‹_›, ‹_›⟩
  | sys c k ih => intro h w hh ha; exact hh.elim
  | program k ih => intro h w hh ha; simp only [Sem.run]; exact ih _ hh ha
  | mark m k ih => intro h w hh ha; simp only [Sem.run]; exact ih hh ha
  | halt e => intro h w hh ha; exact ⟨h, ha, hh⟩
end Go.Hv
namespace Go.Hv
namespace S
def val (s : Sem Value) : Sem Next := do pure (.value (← s))
def eff (s : Sem Unit) : Sem Next := do s; pure .skip
def guardEq (op : BinOp) (t : TypeId) (cx cy : Bool) (a b : Value) : Sem Unit := eqGuard op t (bif cx then .const a else .tmp 0) (bif cy then .const b else .tmp 0) a b
def isC : Operand → Bool | .const _ => true | _ => false
def move (x : Value) : Sem Next := pure (.value x)
def pick (c a b : Value) : Sem Next := do pure (.value (if ← asBool c then a else b))
def alloc (e : TypeId) : Sem Next := val (Instr.alloc e true (.tuple #[]))
def box (e : TypeId) (x : Value) : Sem Next := val (Instr.box e x)
def build (t : TypeId) (ps : List (Nat × Value)) : Sem Next := val (Instr.build t ps.toArray)
def buildSlice (t : TypeId) (n : Nat) (ps : List (Nat × Value)) : Sem Next := val (Instr.buildSlice t n ps.toArray)
def load (t : TypeId) (a : Value) : Sem Next := val (Instr.loadAt t a)
def store (t : TypeId) (a x : Value) : Sem Next := eff (Instr.storeAt t a x)
def nilCheck (x : Value) : Sem Next := execOp (fun _ => x) { dst := none, op := .nilCheck (.tmp 0), type := 0, pos := "", after := #[], guard := none }
def bin (op : BinOp) (t : TypeId) (cx cy : Bool) (x y : Value) : Sem Next := val (do guardEq op t cx cy x y; binOp op t x y)
def un (op : UnOp) (x : Value) : Sem Next := val (Op.unary op x)
def conv (s d : TypeId) (x : Value) : Sem Next := val (convert s d x)
def arrayAt (t : TypeId) (x : Value) : Sem Next := val (Instr.arrayAt t x)
def mkIface (t : TypeId) (x : Value) : Sem Next := val (Instr.makeInterface t x)
def mkFunc (fn : Fn) (a b : List Value) : Sem Next := val (Instr.makeFunc fn a.toArray b.toArray)
def mkMap (t : TypeId) (r : Option Value) : Sem Next := val (Instr.makeMap t r)
def mkChan (t : TypeId) (s : Value) : Sem Next := val (Instr.makeChan t s)
def mkSlice (t : TypeId) (l c : Value) : Sem Next := val (Instr.makeSlice t l c)
def slice (t : TypeId) (x : Value) (lo hi mx : Option Value) : Sem Next := val (Instr.sliceAt t x lo hi mx)
def fieldAddr (s : TypeId) (x : Value) (i : Nat) : Sem Next := val (Instr.fieldAt s x i)
def field (t : TypeId) (x : Value) (i : Nat) : Sem Next := val (Instr.field t x i)
def indexAddr (t : TypeId) (x i : Value) : Sem Next := val (Instr.indexAt t x i)
def index (t : TypeId) (x i : Value) : Sem Next := val (Instr.index t x i)
def lookup (t : TypeId) (x i : Value) (ok : Bool) : Sem Next := val (Instr.lookup t x i ok)
def mapUpdate (t : TypeId) (m k x : Value) : Sem Next := eff (Instr.mapUpdate t m k x)
def mapEntry (t : TypeId) (m k : Value) : Sem Next := val (Instr.mapEntry t m k)
def entryStore (t : TypeId) (m s x : Value) : Sem Next := eff (Instr.entryStore t m s x)
def range (t : TypeId) (x : Value) : Sem Next := val (Instr.range t x)
def next (it : Value) (str : Bool) (ty : TypeId) : Sem Next := val (Instr.next it str ty)
def entry (it : Value) : Sem Next := val (Instr.entry it)
def tassert (x : Value) (t a : TypeId) (ok : Bool) : Sem Next := val (Instr.typeAssert x t a ok)
def extract (x : Value) (i : Nat) : Sem Next := val (Instr.extract x i)
def builtin (b : Builtin) (ts : Array TypeId) (ty : TypeId) (cs : List Bool) (args : List Value) : Sem Next := Go.builtin b ts ty cs.toArray args.toArray
def callF (g : FuncId) (args : List Value) : Sem Next := callFunc g args.toArray
def dyn (fv : Value) (args : List Value) : Sem Next := do let d ← Deferred.ofValue fv args.toArray; invoke d.target d.args
def meth (recv : Value) (name : String) (args : List Value) : Sem Next := invoke (.fn (.method name) #[]) (#[recv] ++ args.toArray)
def panic (x : Value) : Sem Next := val (Instr.panic x)
end S

/-- an operation, its operands as values -/
inductive X where
  | move (x : Value)
  | pick (c a b : Value)
  | alloc (e : TypeId)
  | box (e : TypeId) (x : Value)
  | build (t : TypeId) (ps : List (Nat × Value))
  | buildSlice (t : TypeId) (n : Nat) (ps : List (Nat × Value))
  | load (t : TypeId) (a : Value)
  | store (t : TypeId) (a x : Value)
  | nilCheck (x : Value)
  | bin (op : BinOp) (t : TypeId) (cx cy : Bool) (x y : Value)
  | un (op : UnOp) (x : Value)
  | conv (s d : TypeId) (x : Value)
  | arrayAt (t : TypeId) (x : Value)
  | mkIface (t : TypeId) (x : Value)
  | mkFunc (fn : Fn) (a b : List Value)
  | mkMap (t : TypeId) (r : Option Value)
  | mkChan (t : TypeId) (s : Value)
  | mkSlice (t : TypeId) (l c : Value)
  | slice (t : TypeId) (x : Value) (lo hi mx : Option Value)
  | fieldAddr (s : TypeId) (x : Value) (i : Nat)
  | field (t : TypeId) (x : Value) (i : Nat)
  | indexAddr (t : TypeId) (x i : Value)
  | index (t : TypeId) (x i : Value)
  | lookup (t : TypeId) (x i : Value) (ok : Bool)
  | mapUpdate (t : TypeId) (m k x : Value)
  | mapEntry (t : TypeId) (m k : Value)
  | entryStore (t : TypeId) (m s x : Value)
  | range (t : TypeId) (x : Value)
  | next (it : Value) (str : Bool) (ty : TypeId)
  | entry (it : Value)
  | tassert (x : Value) (t a : TypeId) (ok : Bool)
  | extract (x : Value) (i : Nat)
  | builtin (b : Builtin) (ts : Array TypeId) (ty : TypeId) (cs : List Bool) (args : List Value)
  | callF (g : FuncId) (args : List Value)
  | dyn (fv : Value) (args : List Value)
  | meth (recv : Value) (name : String) (args : List Value)
  | panic (x : Value)
  | no
def X.sem : X → Sem Next
  | .move x => S.move x
  | .pick c a b => S.pick c a b
  | .alloc e => S.alloc e
  | .box e x => S.box e x
  | .build t ps => S.build t ps
  | .buildSlice t n ps => S.buildSlice t n ps
  | .load t a => S.load t a
  | .store t a x => S.store t a x
  | .nilCheck x => S.nilCheck x
  | .bin op t cx cy x y => S.bin op t cx cy x y
  | .un op x => S.un op x
  | .conv s d x => S.conv s d x
  | .arrayAt t x => S.arrayAt t x
  | .mkIface t x => S.mkIface t x
  | .mkFunc fn a b => S.mkFunc fn a b
  | .mkMap t r => S.mkMap t r
  | .mkChan t s => S.mkChan t s
  | .mkSlice t l c => S.mkSlice t l c
  | .slice t x lo hi mx => S.slice t x lo hi mx
  | .fieldAddr s x i => S.fieldAddr s x i
  | .field t x i => S.field t x i
  | .indexAddr t x i => S.indexAddr t x i
  | .index t x i => S.index t x i
  | .lookup t x i ok => S.lookup t x i ok
  | .mapUpdate t m k x => S.mapUpdate t m k x
  | .mapEntry t m k => S.mapEntry t m k
  | .entryStore t m s x => S.entryStore t m s x
  | .range t x => S.range t x
  | .next it str ty => S.next it str ty
  | .entry it => S.entry it
  | .tassert x t a ok => S.tassert x t a ok
  | .extract x i => S.extract x i
  | .builtin b ts ty cs args => S.builtin b ts ty cs args
  | .callF g args => S.callF g args
  | .dyn fv args => S.dyn fv args
  | .meth recv name args => S.meth recv name args
  | .panic x => S.panic x
  | .no => .halt (.stuck "")

/-- 'execOp', its lists of operands written as lists -/
def xop (ρ : Operand → Value) (o : Oper) : X :=
  match o.op with
  | .move x | .assign x => X.move (ρ x)
  | .pick c a b => X.pick (ρ c) (ρ a) (ρ b)
  | .alloc e => X.alloc e
  | .box e x => X.box e (ρ x)
  | .build t ps => X.build t (ps.toList.map fun p => (p.1, ρ p.2))
  | .buildSlice t n ps => X.buildSlice t n (ps.toList.map fun p => (p.1, ρ p.2))
  | .load t a => X.load t (ρ a)
  | .store t a x => X.store t (ρ a) (ρ x)
  | .nilCheck x => X.nilCheck (ρ x)
  | .binOp op t x y _ => X.bin op t (S.isC x) (S.isC y) (ρ x) (ρ y)
  | .unOp op _ x => X.un op (ρ x)
  | .convert s d x => X.conv s d (ρ x)
  | .sliceToArrayPointer t x => X.arrayAt t (ρ x)
  | .makeInterface t x => X.mkIface t (ρ x)
  | .makeFunc fn a b => X.mkFunc fn (a.toList.map ρ) (b.toList.map ρ)
  | .makeMap t r => X.mkMap t (r.map ρ)
  | .makeChan t s => X.mkChan t (ρ s)
  | .makeSlice t l c => X.mkSlice t (ρ l) (ρ c)
  | .slice t x lo hi mx => X.slice t (ρ x) (lo.map ρ) (hi.map ρ) (mx.map ρ)
  | .fieldAddr s x i => X.fieldAddr s (ρ x) i
  | .field t x i => X.field t (ρ x) i
  | .indexAddr t x i => X.indexAddr t (ρ x) (ρ i)
  | .index t x i => X.index t (ρ x) (ρ i)
  | .lookup t x i ok => X.lookup t (ρ x) (ρ i) ok
  | .mapUpdate t m k x | .insert t m k x => X.mapUpdate t (ρ m) (ρ k) (ρ x)
  | .mapEntry t m k => X.mapEntry t (ρ m) (ρ k)
  | .entryStore t m s x => X.entryStore t (ρ m) (ρ s) (ρ x)
  | .range t x => X.range t (ρ x)
  | .next it str => X.next (ρ it) str o.type
  | .entry it => X.entry (ρ it)
  | .typeAssert x t a ok => X.tassert (ρ x) t a ok
  | .extract x i => X.extract (ρ x) i
  | .call c => match c.callee with
    | .builtin b => X.builtin b c.argTypes o.type (c.args.toList.map S.isC) (c.args.toList.map ρ)
    | .invoke r name => X.meth (ρ r) name (c.args.toList.map ρ)
    | .value (.func g) => X.callF g (c.args.toList.map ρ)
    | .value f => X.dyn (ρ f) (c.args.toList.map ρ)
  | .panic x => X.panic (ρ x)
  | _ => .no

theorem guardEq_eq (op : BinOp) (t : TypeId) (x y : Operand) (a b : Value) : S.guardEq op t (S.isC x) (S.isC y) a b = eqGuard op t x y a b := by
  unfold S.guardEq eqGuard
  cases x <;> cases y <;> rfl

/-- what 'xop' doesn't take -/
def xopOk (o : Oper) : Bool := match o.op with
  | .ready _ | .waits _ | .go _ | .defer _ | .send .. | .recv .. | .select .. => false
  | .call c => match c.callee with | .value (.const (.func ..)) => true | _ => true
  | _ => true

theorem xop_eq (ρ : Operand → Value) (hρ : ∀ g, ρ (.func g) = .func (.func g) #[] #[]) (o : Oper) (ho : xopOk o = true) : (xop ρ o).sem = execOp ρ o := by
  have hmap : ∀ (xs : Array Operand), (xs.toList.map ρ).toArray = xs.map ρ := fun xs => by rw [← Array.toList_map]
  have hmapP : ∀ (xs : Array (Nat × Operand)), (xs.toList.map fun p => (p.1, ρ p.2)).toArray = xs.map fun (i, x) => (i, ρ x) := fun xs => by rw [← Array.toList_map]
  have hmapC : ∀ (xs : Array Operand), (xs.toList.map S.isC).toArray = xs.map fun | .const _ => true | _ => false := fun xs => by
    rw [← Array.toList_map, Array.toArray_toList]
    rfl
  unfold xop execOp
  cases hop : o.op with
  | binOp op t x y yt => simp only [X.sem, S.bin, guardEq_eq]; rfl
  | build t ps => simp only [X.sem, S.build, hmapP]; rfl
  | buildSlice t n ps => simp only [X.sem, S.buildSlice, hmapP]; rfl
  | makeFunc fn a b => simp only [X.sem, S.mkFunc, hmap]; rfl
  | call c =>
    cases hc : c.callee with
    | builtin b =>
      simp only [X.sem, S.builtin, hmap, hmapC, resolve, hc]
      rfl
    | invoke r name =>
      simp only [X.sem, S.meth, hmap, resolve, hc]
      rfl
    | value g =>
      cases g with
      | func g =>
        simp only [X.sem, S.callF, hmap, resolve, hc, hρ, Deferred.ofValue]
        show callFunc g (c.args.map ρ) = Sem.bind (Sem.pure _) _
        simp only [Sem.bind, invoke]
        simp
      | tmp t => simp only [X.sem, S.dyn, hmap, resolve, hc]
      | const v => simp only [X.sem, S.dyn, hmap, resolve, hc]
      | global g => simp only [X.sem, S.dyn, hmap, resolve, hc]
  | nilCheck x => simp only [X.sem, S.nilCheck]; rfl
  | _ => first | rfl | (simp only [xopOk, hop] at ho; exact absurd ho (by simp))
end Go.Hv
namespace Go.Hv
abbrev F := Nat → Value
def upd (f : F) (i : Nat) (v : Value) : F := fun j => if j = i then v else f j
def ev (f : F) : Operand → Value
  | .tmp t => f t
  | .const v => v
  | .global g => .pointer (some ⟨g, 0, none⟩)
  | .func g => .func (.func g) #[] #[]
def put (f : F) (d : Option Tmp) (v : Value) : F := match d with | some d => upd f d v | none => f

/-- frame f stands in the activation a of n slots -/
structure Fits (n : Nat) (f : F) (a : Act) : Prop where
  size : a.tmps.size = n
  get : ∀ i, a.tmps.getD i undef = f i
  defers : a.defers = []

def dstOk (n : Nat) : Option Tmp → Bool
  | some d => decide (d < n)
  | none => true
theorem Fits.put {n : Nat} {f : F} {a : Act} (h : Fits n f a) {d : Option Tmp} (hd : dstOk n d = true) (v : Value) : Fits n (put f d v) (a.put d v) := by
  cases d with
  | none => exact h
  | some d =>
    have hd' : d < n := by simpa [dstOk] using hd
    have hs := h.size
    refine ⟨by simp [Act.put, hs], fun i => ?_, h.defers⟩
    simp only [Act.put, Hv.put, upd]
    have := h.get i
    by_cases e : i = d
    · subst e; simp [Array.getD, hs, hd']
    · simp only [e, if_false]
      rw [← this]
      by_cases hi : i < a.tmps.size
      · simp [Array.getD, hi, Ne.symm e]
      · simp [Array.getD, hi]
theorem Fits.eval {n : Nat} {f : F} {a : Act} (h : Fits n f a) : a.eval = ev f := by
  funext x
  cases x with
  | tmp t => exact h.get t
  | const v => rfl
  | global g => rfl
  | func g => rfl
theorem Fits.same {n : Nat} {f f' : F} {a : Act} (h : Fits n f a) (h' : Fits n f' a) : f = f' := by
  funext i; rw [← h.get i, h'.get i]

/-! calls -/
def HCalls (P : Program) (g : FuncId) (args : Array Value) (h : Heap) (R : Value → Heap → Prop) : Prop :=
  ∀ E w, At E h w → Calls P g args w fun e w' => ∃ v h', e = .returned v ∧ At E h' w' ∧ R v h'
theorem HCalls.mono {P : Program} {g : FuncId} {args : Array Value} {h : Heap} {R R' : Value → Heap → Prop} (hc : HCalls P g args h R) (hr : ∀ v h, R v h → R' v h) : HCalls P g args h R' :=
  fun E w ha => (hc E w ha).mono fun _ _ ⟨v, h', hv, ha', r⟩ => ⟨v, h', hv, ha', hr _ _ r⟩

def hnext (P : Program) (K : Value → Heap → Prop) : Next → Heap → Prop
  | .value v, h => K v h
  | .skip, h => K undef h
  | .enter g args, h => HCalls P g args h K
  | _, _ => False
def bad : Halt → Heap → Prop := fun _ _ => False

/-- one operation -/
def run (P : Program) (x : X) (K : Value → Heap → Prop) (h : Heap) : Prop := hwp P x.sem (hnext P K) bad h

theorem hnext_mono {P : Program} {K K' : Value → Heap → Prop} (hk : ∀ v h, K v h → K' v h) (x : Next) (h : Heap) (hh : hnext P K x h) : hnext P K' x h := by
  cases x <;> try exact hh
  · exact hk _ _ hh
  · exact hk _ _ hh
  · exact HCalls.mono hh hk
theorem run_mono {P : Program} {s : X} {K K' : Value → Heap → Prop} {h : Heap} (hh : run P s K h) (hk : ∀ v h, K v h → K' v h) : run P s K' h :=
  hwp_mono hh (hnext_mono hk) fun _ _ x => x

theorem run_sound {P : Program} {o : Oper} {a : Act} {E : Env} {K : Value → Heap → Prop} {h : Heap} {w : World} {next : Act → World → Prop} {Q : Exit → Act → World → Prop}
    (hh : hwp P (execOp a.eval o) (hnext P K) bad h) (ha : At E h w) (hK : ∀ v h' w', At E h' w' → K v h' → next (a.put o.dst v) w') : o.wp P a w next Q := by
  have hs := hwp_sound hh ha
  unfold Oper.wp
  cases hr : (execOp a.eval o).run P w with
  | halt e w' =>
    rw [hr] at hs
    obtain ⟨h', ha', hb⟩ := hs
    exact hb.elim
  | ok x w' =>
    rw [hr] at hs
    obtain ⟨h', ha', hb⟩ := hs
    cases x <;> try exact hb.elim
    · exact hK _ _ _ ha' hb
    · exact hK _ _ _ ha' hb
    · rename_i g args
      refine (hb E w' ha').mono ?_
      intro e w'' hx
      obtain ⟨v, h'', rfl, ha'', r⟩ := hx
      exact hK _ _ _ ha'' r

/-- is the operation done? its guard asks an earlier one's answer -/
def gw (v : Value) (want : Bool) : Bool := (match v with | .bool b => some b | _ => none) == some want
def yl (ops : Array Oper) (f : F) (j : Nat) : Option Bool :=
  match (ops[j]?).bind (·.dst) with
  | some d => match f d with | .bool b => some b | _ => none
  | none => none
def wants (ops : Array Oper) (f : F) (o : Oper) : Bool :=
  match o.guard with
  | none => true
  | some (j, want) => match (ops[j]?).bind (·.dst) with
    | some d => gw (f d) want
    | none => false

def operOk (n : Nat) (o : Oper) : Bool := dstOk n o.dst && xopOk o
theorem operOk.dst {n : Nat} {o : Oper} (h : operOk n o = true) : dstOk n o.dst = true := (Bool.and_eq_true _ _ ▸ h).1
theorem operOk.xop {n : Nat} {o : Oper} (h : operOk n o = true) (f : F) : (xop (ev f) o).sem = execOp (ev f) o := xop_eq _ (fun _ => rfl) o (Bool.and_eq_true _ _ ▸ h).2
def opsOk (n : Nat) (ops : Array Oper) : Bool := ops.toList.all (operOk n)

theorem Fits.yields {n : Nat} {f : F} {a : Act} (h : Fits n f a) {ops : Array Oper} (ho : opsOk n ops = true) (j : Nat) : yielded ops a.tmps j = yl ops f j := by
  unfold yielded yl
  cases hj : (ops[j]?).bind (·.dst) with
  | none => simp
  | some d =>
    have hd : d < n := by
      cases hj' : ops[j]? with
      | none => simp [hj'] at hj
      | some o =>
        rw [hj'] at hj
        have hm : o ∈ ops.toList := by
          have := Array.mem_of_getElem? hj'
          simpa using this
        have h1 := operOk.dst (List.all_eq_true.1 ho o hm)
        simp only [Option.bind_some] at hj
        rw [hj] at h1
        simpa [dstOk] using h1
    have hget := h.get d
    have hlt : d < a.tmps.size := by rw [h.size]; exact hd
    simp only [Option.bind_some]
    rw [Array.getElem?_eq_getElem hlt]
    simp only [Array.getD, hlt, dite_true] at hget
    have hget' : a.tmps[d] = f d := hget
    rw [hget']
    cases f d <;> rfl
theorem Fits.wants {n : Nat} {f : F} {a : Act} (h : Fits n f a) {ops : Array Oper} (ho : opsOk n ops = true) (o : Oper) : Region.wanted o (yielded ops a.tmps) = wants ops f o := by
  unfold Region.wanted Hv.wants
  cases o.guard with
  | none => rfl
  | some g =>
    obtain ⟨j, want⟩ := g
    simp only [h.yields ho, yl, gw]
    split <;> rfl

/-- a guarded operation -/
def when (b : Bool) (X : (Value → Heap → Prop) → Heap → Prop) (K : Value → Heap → Prop) (h : Heap) : Prop := if b then X K h else K undef h

/-- an operation, a bare move passed over -/
def stp (P : Program) (x : X) (K : Value → Heap → Prop) (h : Heap) : Prop :=
  match x with
  | .move v => K v h
  | x => run P x K h
theorem stp_run {P : Program} {x : X} {K : Value → Heap → Prop} {h : Heap} (hh : stp P x K h) : run P x K h := by
  cases x <;> exact hh
noncomputable def hops (P : Program) (ops : Array Oper) (Q : F → Heap → Prop) (l : List Oper) : F → Heap → Prop :=
  List.rec (motive := fun _ => F → Heap → Prop) (fun f h => Q f h)
    (fun o _ ih f h => match o.guard with
      | none => stp P (xop (ev f) o) (fun v h' => ih (put f o.dst v) h') h
      | some _ => when (wants ops f o) (run P (xop (ev f) o)) (fun v h' => ih (put f o.dst v) h') h) l
theorem hops_cons (P : Program) (ops : Array Oper) (Q : F → Heap → Prop) (o : Oper) (rest : List Oper) (f : F) (h : Heap) : hops P ops Q (o :: rest) f h =
    match o.guard with
    | none => stp P (xop (ev f) o) (fun v h' => hops P ops Q rest (put f o.dst v) h') h
    | some _ => when (wants ops f o) (run P (xop (ev f) o)) (fun v h' => hops P ops Q rest (put f o.dst v) h') h := rfl

def lift (E : Env) (n : Nat) (Q : Exit → F → Heap → Prop) (e : Exit) (a : Act) (w : World) : Prop := ∃ f h, Fits n f a ∧ At E h w ∧ Q e f h

theorem hops_sound {P : Program} {ops : Array Oper} {n : Nat} {E : Env} {Q : Exit → F → Heap → Prop} (hall : opsOk n ops = true) :
    ∀ (l : List Oper), l.all (operOk n) = true → ∀ {f h a w}, hops P ops (Q .normal) l f h → Fits n f a → At E h w → wpList P ops (lift E n Q) l a w := by
  intro l
  induction l with
  | nil => intro _ f h a w hh hf ha; exact ⟨f, h, hf, ha, hh⟩
  | cons o rest ih =>
    intro hl f h a w hh hf ha
    simp only [List.all_cons, Bool.and_eq_true] at hl
    have hw := hf.wants hall o
    unfold wpList
    rw [hw]
    have hh' : if wants ops f o then run P (xop (ev f) o) (fun v h' => hops P ops (Q .normal) rest (Hv.put f o.dst v) h') h else hops P ops (Q .normal) rest (Hv.put f o.dst undef) h := by
      rw [hops_cons] at hh
      cases hg : o.guard with
      | none => rw [hg] at hh; simp only [wants, hg]; exact stp_run hh
      | some g => rw [hg] at hh; exact hh
    split
    · rename_i hwt
      rw [if_pos hwt] at hh'
      refine .inl (run_sound (E := E) (K := fun v h' => hops P ops (Q .normal) rest (Hv.put f o.dst v) h') ?_ ha ?_)
      · rw [hf.eval, ← operOk.xop hl.1 f]; exact hh'
      · intro v h' w' ha' hk; exact ih hl.2 hk (hf.put (operOk.dst hl.1) _) ha'
    · rename_i hwt
      rw [if_neg hwt] at hh'
      exact ih hl.2 hh' (hf.put (operOk.dst hl.1) _) ha

/-! regions that draw their order -/
/-- what a piece of Sem that only reads answers -/
def rd {α : Type} (P : Program) : Sem α → Heap → Option α
  | .pure a, _ => some a
  | .load _ a k, h => (cell h a).bind fun v => rd P (k v) h
  | .shape r k, h => rd P (k (shapeOf h r)) h
  | .frozen a k, h => rd P (k (froz h a)) h
  | .getObj r k, h => match h[r]? with
    | some (.cells ..) => none
    | some o => rd P (k o) h
    | none => none
  | .choose q k, h => if q.forced then rd P (k 0) h else none
  | .program k, h => rd P (k P) h
  | .mark _ k, h => rd P k h
  | _, _ => none

theorem rd_bind {α β : Type} (P : Program) (s : Sem α) (g : α → Sem β) (h : Heap) : rd P (s.bind g) h = (rd P s h).bind fun a => rd P (g a) h := by
  induction s with
  | pure a => rfl
  | load m a k ih => simp only [Sem.bind, rd, ih]; cases cell h a <;> rfl
  | store m a v k ih => rfl
  | new o k ih => rfl
  | shape r k ih => simp only [Sem.bind, rd, ih]
  | freeze a n k ih => rfl
  | frozen a k ih => simp only [Sem.bind, rd, ih]
  | getObj r k ih =>
    simp only [Sem.bind, rd]
    split <;> first | rfl | exact ih _
  | setObj r o k ih => rfl
  | choose q k ih => simp only [Sem.bind, rd]; split <;> first | rfl | exact ih _
  | sys c k ih => rfl
  | program k ih => simp only [Sem.bind, rd, ih]
  | mark m k ih => simp only [Sem.bind, rd, ih]
  | halt e => rfl

theorem hwp_of_rd {α : Type} {P : Program} {s : Sem α} {h : Heap} {a : α} {Q : α → Heap → Prop} {X : Halt → Heap → Prop} (hr : rd P s h = some a) (hq : Q a h) : hwp P s Q X h := by
  induction s with
  | pure b => simp only [rd, Option.some.injEq] at hr; subst hr; exact hq
  | load m b k ih =>
    simp only [rd, Option.bind_eq_some_iff] at hr
    obtain ⟨v, hv, hr⟩ := hr
    exact ⟨v, hv, ih v hr⟩
  | store m b v k ih => simp [rd] at hr
  | new o k ih => simp [rd] at hr
  | shape r k ih => exact ih _ hr
  | freeze b n k ih => simp [rd] at hr
  | frozen b k ih => exact ih _ hr
  | getObj r k ih =>
    simp only [rd] at hr
    split at hr
    · simp at hr
    · rename_i o hne ho
      exact ⟨_, ho, fun c e f => hne c e f, ih _ hr⟩
    · simp at hr
  | setObj r o k ih => simp [rd] at hr
  | choose q k ih =>
    simp only [rd] at hr
    split at hr
    · rename_i hf; simp only [hwp, hf, if_true]; exact ih _ hr
    · simp at hr
  | sys c k ih => simp [rd] at hr
  | program k ih => exact ih _ hr
  | mark m k ih => exact ih hr
  | halt e => simp [rd] at hr

theorem run_of_rd' {α : Type} {P : Program} {s : Sem α} {w : World} {a : α} (hr : rd P s w.heap = some a) : s.run P w = .ok a w := by
  induction s with
  | pure b => simp only [rd, Option.some.injEq] at hr; subst hr; rfl
  | load m b k ih =>
    simp only [rd, Option.bind_eq_some_iff] at hr
    obtain ⟨v, hv, hr⟩ := hr
    have hc : w.cell? b = some v := hv
    simp only [Sem.run, hc]
    exact ih v hr
  | store m b v k ih => simp [rd] at hr
  | new o k ih => simp [rd] at hr
  | shape r k ih => exact ih _ hr
  | freeze b n k ih => simp [rd] at hr
  | frozen b k ih => exact ih _ hr
  | getObj r k ih =>
    simp only [rd] at hr
    split at hr
    · simp at hr
    · rename_i o hne ho
      simp only [Sem.run, ho]
      exact ih _ hr
    · simp at hr
  | setObj r o k ih => simp [rd] at hr
  | choose q k ih =>
    simp only [rd] at hr
    split at hr
    · rename_i hf; simp only [Sem.run, hf, if_true]; exact ih _ hr
    · simp at hr
  | sys c k ih => simp [rd] at hr
  | program k ih => exact ih _ hr
  | mark m k ih => exact ih hr
  | halt e => simp [rd] at hr

/-- an operation that leaves the heap alone yields v -/
def qnext (P : Program) (h : Heap) (v : Value) : Option Next → Prop
  | some (.value u) => u = v
  | some .skip => v = undef
  | some (.enter g args) => HCalls P g args h fun u h' => u = v ∧ h' = h
  | _ => False
def still (P : Program) (x : X) (K : Value → Prop) (h : Heap) : Prop := ∃ v, qnext P h v (rd P x.sem h) ∧ K v
def whenq (b : Bool) (X : (Value → Prop) → Heap → Prop) (K : Value → Prop) (h : Heap) : Prop := if b then X K h else K undef
noncomputable def hquiet (P : Program) (ops : Array Oper) (Q : F → Prop) (h : Heap) (l : List Oper) : F → Prop :=
  List.rec (motive := fun _ => F → Prop) (fun f => Q f)
    (fun o _ ih f => match o.guard with
      | none => still P (xop (ev f) o) (fun v => ih (put f o.dst v)) h
      | some _ => whenq (wants ops f o) (still P (xop (ev f) o)) (fun v => ih (put f o.dst v)) h) l
theorem hquiet_cons (P : Program) (ops : Array Oper) (Q : F → Prop) (h : Heap) (o : Oper) (rest : List Oper) (f : F) : hquiet P ops Q h (o :: rest) f =
    match o.guard with
    | none => still P (xop (ev f) o) (fun v => hquiet P ops Q h rest (put f o.dst v)) h
    | some _ => whenq (wants ops f o) (still P (xop (ev f) o)) (fun v => hquiet P ops Q h rest (put f o.dst v)) h := rfl

theorem hquiet_sound {P : Program} {ops : Array Oper} {n : Nat} {E : Env} {h : Heap} {Q : F → Prop} (hall : opsOk n ops = true) :
    ∀ (l : List Oper), l.all (operOk n) = true → ∀ {f a}, hquiet P ops Q h l f → Fits n f a → wpQuiet P ops (At E h) (fun a => ∃ f, Fits n f a ∧ Q f) l a := by
  intro l
  induction l with
  | nil => intro _ f a hh hf; exact ⟨f, hf, hh⟩
  | cons o rest ih =>
    intro hl f a hh hf
    simp only [List.all_cons, Bool.and_eq_true] at hl
    have hw := hf.wants hall o
    unfold wpQuiet
    rw [hw]
    have hh' : if wants ops f o then still P (xop (ev f) o) (fun v => hquiet P ops Q h rest (Hv.put f o.dst v)) h else hquiet P ops Q h rest (Hv.put f o.dst undef) := by
      rw [hquiet_cons] at hh
      cases hg : o.guard with
      | none => rw [hg] at hh; simp only [wants, hg]; exact hh
      | some g => rw [hg] at hh; exact hh
    split
    · rename_i hwt
      rw [if_pos hwt] at hh'
      obtain ⟨v, hv, hk⟩ := hh'
      refine ⟨v, ?_, ih hl.2 hk (hf.put (operOk.dst hl.1) _)⟩
      intro w ha
      unfold Oper.quietAt
      rw [hf.eval, ← operOk.xop hl.1 f]
      obtain ⟨rfl, h2, h3, h4⟩ := ha
      cases hr : rd P (xop (ev f) o).sem w.heap with
      | none => rw [hr] at hv; exact hv.elim
      | some x =>
        rw [run_of_rd' hr]
        rw [hr] at hv
        cases x <;> try exact hv.elim
        · exact ⟨rfl, hv⟩
        · exact ⟨rfl, hv⟩
        · refine ⟨rfl, (hv E w ⟨rfl, h2, h3, h4⟩).mono ?_⟩
          rintro e w' ⟨u, h', rfl, ha', rfl, rfl⟩
          exact ⟨rfl, ha'⟩
    · rename_i hwt
      rw [if_neg hwt] at hh'
      exact ih hl.2 hh' (hf.put (operOk.dst hl.1) _)

/-- .. reads alone: the head of a region that ends in what writes -/
def headq (P : Program) (x : X) (K : Value → Prop) (h : Heap) : Prop := ∃ v, rd P x.sem h = some (.value v) ∧ K v
noncomputable def hstill (P : Program) (ops : Array Oper) (Q : F → Prop) (h : Heap) (l : List Oper) : F → Prop :=
  List.rec (motive := fun _ => F → Prop) (fun f => Q f)
    (fun o _ ih f => match o.guard with
      | none => headq P (xop (ev f) o) (fun v => ih (put f o.dst v)) h
      | some _ => whenq (wants ops f o) (headq P (xop (ev f) o)) (fun v => ih (put f o.dst v)) h) l
theorem hstill_cons (P : Program) (ops : Array Oper) (Q : F → Prop) (h : Heap) (o : Oper) (rest : List Oper) (f : F) : hstill P ops Q h (o :: rest) f =
    match o.guard with
    | none => headq P (xop (ev f) o) (fun v => hstill P ops Q h rest (put f o.dst v)) h
    | some _ => whenq (wants ops f o) (headq P (xop (ev f) o)) (fun v => hstill P ops Q h rest (put f o.dst v)) h := rfl
/-- .. an operation that answers the same in every heap of the kind St -/
def tk (P : Program) (St : Heap → Prop) (x : X) (K : Value → Prop) (h : Heap) : Prop := ∃ v, St h ∧ (∀ h', St h' → rd P x.sem h' = some (.value v)) ∧ K v
def whent (b : Bool) (X : (Value → Prop) → Heap → Prop) (K : Value → Prop) (St : Heap → Prop) (h : Heap) : Prop := if b then X K h else St h ∧ K undef
noncomputable def hheld (P : Program) (ops : Array Oper) (Q : F → Heap → Prop) (St : Heap → Prop) (plan : List (Nat × Bool)) : F → Heap → Prop :=
  List.rec (motive := fun _ => F → Heap → Prop) (fun f h => Q f h)
    (fun p _ ih f h => match ops[p.1]? with
      | none => False
      | some o => match p.2 with
        | true => (match o.guard with
          | none => tk P St (xop (ev f) o) (fun v => ih (put f o.dst v) h) h
          | some _ => whent (wants ops f o) (tk P St (xop (ev f) o)) (fun v => ih (put f o.dst v) h) St h)
        | false => (match o.guard with
          | none => run P (xop (ev f) o) (fun v h' => St h' ∧ ih (put f o.dst v) h') h
          | some _ => when (wants ops f o) (run P (xop (ev f) o)) (fun v h' => St h' ∧ ih (put f o.dst v) h') h)) plan
def hhstep (P : Program) (ops : Array Oper) (St : Heap → Prop) (i : Nat) (t : Bool) (ih : F → Heap → Prop) (f : F) (h : Heap) : Prop := match ops[i]? with
      | none => False
      | some o => match t with
        | true => (match o.guard with
          | none => tk P St (xop (ev f) o) (fun v => ih (put f o.dst v) h) h
          | some _ => whent (wants ops f o) (tk P St (xop (ev f) o)) (fun v => ih (put f o.dst v) h) St h)
        | false => (match o.guard with
          | none => run P (xop (ev f) o) (fun v h' => St h' ∧ ih (put f o.dst v) h') h
          | some _ => when (wants ops f o) (run P (xop (ev f) o)) (fun v h' => St h' ∧ ih (put f o.dst v) h') h)
theorem hheld_cons (P : Program) (ops : Array Oper) (Q : F → Heap → Prop) (St : Heap → Prop) (i : Nat) (t : Bool) (plan : List (Nat × Bool)) (f : F) (h : Heap) : hheld P ops Q St ((i, t) :: plan) f h = hhstep P ops St i t (hheld P ops Q St plan) f h := rfl
def planOk (ops : Array Oper) : List (Nat × Bool) → Array Bool → Bool
  | [], listed => Region.ready .any ops listed == []
  | (i, true) :: l, listed => Region.free .any ops listed i && (Region.ready .any ops listed).contains i && planOk ops l (listed.setIfInBounds i true)
  | (i, false) :: l, listed => Region.ready .any ops listed == [i] && planOk ops l (listed.setIfInBounds i true)
/-- a frame with some slots written -/
noncomputable def U (f : F) (l : List (Nat × Value)) : F := List.rec (motive := fun _ => F → F) (fun f => f) (fun p _ ih f => ih (upd f p.1 p.2)) l f
end Go.Hv
namespace Go.Hv
/-! ### regions whose writes have their place in every order -/
/-- an operation that answers the same in whatever heap -/
def tf (P : Program) (x : X) (K : Value → Prop) : Prop := ∃ v, (∀ h, rd P x.sem h = some (.value v)) ∧ K v
def whenf (b : Bool) (X : (Value → Prop) → Prop) (K : Value → Prop) : Prop := if b then X K else K undef
/-- 0: it hangs on no heap; 1: it is read in the heap at hand; 2: a write, a call -/
noncomputable def hsync (P : Program) (ops : Array Oper) (Q : F → Heap → Prop) (plan : List (Nat × Nat)) : F → Heap → Prop :=
  List.rec (motive := fun _ => F → Heap → Prop) (fun f h => Q f h)
    (fun p _ ih f h => match ops[p.1]? with
      | none => False
      | some o => match p.2 with
        | 0 => (match o.guard with
          | none => tf P (xop (ev f) o) (fun v => ih (put f o.dst v) h)
          | some _ => whenf (wants ops f o) (tf P (xop (ev f) o)) (fun v => ih (put f o.dst v) h))
        | 1 => (match o.guard with
          | none => headq P (xop (ev f) o) (fun v => ih (put f o.dst v) h) h
          | some _ => whenq (wants ops f o) (headq P (xop (ev f) o)) (fun v => ih (put f o.dst v) h) h)
        | _ => (match o.guard with
          | none => run P (xop (ev f) o) (fun v h' => ih (put f o.dst v) h') h
          | some _ => when (wants ops f o) (run P (xop (ev f) o)) (fun v h' => ih (put f o.dst v) h') h)) plan
def hsstep (P : Program) (ops : Array Oper) (i t : Nat) (ih : F → Heap → Prop) (f : F) (h : Heap) : Prop := match ops[i]? with
      | none => False
      | some o => match t with
        | 0 => (match o.guard with
          | none => tf P (xop (ev f) o) (fun v => ih (put f o.dst v) h)
          | some _ => whenf (wants ops f o) (tf P (xop (ev f) o)) (fun v => ih (put f o.dst v) h))
        | 1 => (match o.guard with
          | none => headq P (xop (ev f) o) (fun v => ih (put f o.dst v) h) h
          | some _ => whenq (wants ops f o) (headq P (xop (ev f) o)) (fun v => ih (put f o.dst v) h) h)
        | _ => (match o.guard with
          | none => run P (xop (ev f) o) (fun v h' => ih (put f o.dst v) h') h
          | some _ => when (wants ops f o) (run P (xop (ev f) o)) (fun v h' => ih (put f o.dst v) h') h)
theorem hsync_cons (P : Program) (ops : Array Oper) (Q : F → Heap → Prop) (i t : Nat) (plan : List (Nat × Nat)) (f : F) (h : Heap) : hsync P ops Q ((i, t) :: plan) f h = hsstep P ops i t (hsync P ops Q plan) f h := rfl

/-- i waits for k -/
def waits (md : Region.Mode) (ops : Array Oper) (i k : Nat) : Bool := match ops[i]? with
  | none => false
  | some o => o.after.any fun e => Region.binds md e && e.on == k
theorem waits_spec {md : Region.Mode} {ops : Array Oper} {i k : Nat} (hw : waits md ops i k = true) {L : Array Bool} (hi : i ∈ Region.ready md ops L) : k ∉ Region.ready md ops L := by
  intro hk
  unfold waits at hw
  obtain ⟨_, o, ho, hall⟩ := mem_ready.1 hi
  rw [ho] at hw
  obtain ⟨e, he, hb⟩ := Array.any_eq_true'.1 hw
  simp only [Bool.and_eq_true, beq_iff_eq] at hb
  have h1 := hall e he hb.1
  have h0 := (mem_ready.1 hk).1
  rw [hb.2] at h1
  rcases Nat.lt_or_ge k L.size with h' | h'
  · simp [h'] at h0 h1; rw [h0] at h1; cases h1
  · simp [Array.getElem?_eq_none h'] at h1
/-- whichever order is picked; behind a write the kind of the heaps is chosen anew -/
def wpX (P : Program) (md : Region.Mode) (ops : Array Oper) (Q : Exit → Act → World → Prop) (B : World → Prop) (syn : Nat → Bool) : Nat → (World → Prop) → Array Bool → Act → World → Prop
  | 0, _, L, a, w => Region.ready md ops L = [] ∧ Q .normal a w
  | n + 1, S, L, a, w => (Region.ready md ops L = [] → Q .normal a w) ∧
    ∀ i ∈ Region.ready md ops L, wpOp P ops Q i (fun a' w' => B w' ∧ ∃ S', (syn i = false → S' = S) ∧ S' w' ∧ wpX P md ops Q B syn n S' (L.setIfInBounds i true) a' w') a w
theorem wpAny_of_X {P : Program} {md : Region.Mode} {ops : Array Oper} {Q : Exit → Act → World → Prop} {B : World → Prop} {syn : Nat → Bool} : ∀ (n : Nat) (S : World → Prop) (L : Array Bool) (a : Act) (w : World), wpX P md ops Q B syn n S L a w → wpAny P md ops Q n L a w
  | 0, _, _, _, _, h => h
  | n + 1, _, _, _, _, h => ⟨h.1, fun i hi => wpOp_mono (fun _ _ h' => let ⟨_, _, _, _, h3⟩ := h'; wpAny_of_X n _ _ _ _ h3) (h.2 i hi)⟩
theorem wpX_first {P : Program} {md : Region.Mode} {ops : Array Oper} {Q : Exit → Act → World → Prop} {B : World → Prop} {syn : Nat → Bool} {i : Nat} {oi : Oper} {v : Value} (hi : ops[i]? = some oi) (hni : syn i = false) (hsel : ∀ (j : Nat) (o : Oper) cs b, ops[j]? = some o → o.op ≠ .select cs b)
    (hQ : ∀ c a w, Q (.panic c) (a.put oi.dst v) w → Q (.panic c) a w) :
    ∀ (n : Nat) (S T : World → Prop) (L : Array Bool) (a : Act) (w : World),
      (∀ j oj, ops[j]? = some oj → j ≠ i → L.getD j true = false → (∀ e ∈ oj.after, Region.binds md e = true → e.on ≠ i) → oi.apart ops oj = true) →
      i ∈ Region.ready md ops L → ((T = S ∧ ∀ j L, syn j = true → i ∈ Region.ready md ops L → j ∉ Region.ready md ops L) ∨ T = B) → YieldsIf P ops T oi v a → T w → B w → S w →
      wpX P md ops Q B syn n S (L.setIfInBounds i true) (a.put oi.dst v) w → wpX P md ops Q B syn (n + 1) S L a w := by
  intro n
  induction n with
  | zero =>
    intro S T L a w _ hr hT hy hTw hB hS H
    refine ⟨fun h => (by rw [h] at hr; cases hr), fun j hj => ?_⟩
    by_cases hji : j = i
    · subst hji; exact hy.wpOp hi hTw ⟨hB, S, fun _ => rfl, hS, H⟩
    · have := ready_mono hj hji
      rw [H.1] at this
      cases this
  | succ n ih =>
    intro S T L a w hfree hr hT hy hTw hB hS H
    refine ⟨fun h => (by rw [h] at hr; cases hr), fun j hj => ?_⟩
    by_cases hji : j = i
    · subst hji; exact hy.wpOp hi hTw ⟨hB, S, fun _ => rfl, hS, H⟩
    · have h1 := H.2 j (ready_mono hj hji)
      obtain ⟨hjun, oj, hoj, hall⟩ := mem_ready.1 hj
      have hnot : ∀ e ∈ oj.after, Region.binds md e = true → e.on ≠ i := fun e he hb heq => by
        have h1 := hall e he hb
        have h0 := (mem_ready.1 hr).1
        rw [heq] at h1
        rcases Nat.lt_or_ge i L.size with h' | h'
        · simp [h'] at h0 h1; rw [h0] at h1; cases h1
        · simp [Array.getElem?_eq_none h'] at h1
      have h2 := wpOp_putIf hoj (hfree j oj hoj hji hjun hnot) (fun cs b => hsel i oi cs b hi) (fun cs b => hsel j oj cs b hoj) hQ hy h1
      have hfree' : ∀ k ok, ops[k]? = some ok → k ≠ i → (L.setIfInBounds j true).getD k true = false →
          (∀ e ∈ ok.after, Region.binds md e = true → e.on ≠ i) → oi.apart ops ok = true := fun k ok hk hki hun hno => by
        refine hfree k ok hk hki ?_ hno
        by_cases hjk : j = k
        · subst hjk; exact hjun
        · rw [getD_set_ne true hjk] at hun; exact hun
      refine wpOp_mono (fun a' w' h3 => ?_) h2
      obtain ⟨hy', hB', S', hS1, hS2, H'⟩ := h3
      refine ⟨hB', S', hS1, hS2, ?_⟩
      rw [Array.setIfInBounds_comm _ _ (Ne.symm hji)] at H'
      rcases hT with ⟨rfl, hco⟩ | rfl
      · have hj0 : syn j = false := by
          cases hs : syn j with
          | false => rfl
          | true => exact absurd hj (hco j L hs hr)
        have := hS1 hj0
        subst this
        exact ih _ _ (L.setIfInBounds j true) a' w' hfree' (ready_mono hr (Ne.symm hji)) (.inl ⟨rfl, hco⟩) hy' hS2 hB' hS2 H'
      · exact ih S' _ (L.setIfInBounds j true) a' w' hfree' (ready_mono hr (Ne.symm hji)) (.inr rfl) hy' hB' hB' hS2 H'

def isSyn (plan : List (Nat × Nat)) (i : Nat) : Bool := plan.any fun p => p.1 == i && p.2 == 2
def sync1 (md : Region.Mode) (ops : Array Oper) (all : List (Nat × Nat)) (k : Nat) : Bool := all.all fun p => p.2 != 2 || waits md ops p.1 k || waits md ops k p.1
def planOkS (ops : Array Oper) (all : List (Nat × Nat)) : List (Nat × Nat) → Array Bool → Bool
  | [], L => Region.ready .any ops L == []
  | (i, 0) :: l, L => !isSyn all i && Region.free .any ops L i && (Region.ready .any ops L).contains i && planOkS ops all l (L.setIfInBounds i true)
  | (i, 1) :: l, L => !isSyn all i && sync1 .any ops all i && Region.free .any ops L i && (Region.ready .any ops L).contains i && planOkS ops all l (L.setIfInBounds i true)
  | (i, 2) :: l, L => isSyn all i && Region.ready .any ops L == [i] && planOkS ops all l (L.setIfInBounds i true)
  | _, _ => false
theorem sync1_spec {md : Region.Mode} {ops : Array Oper} {all : List (Nat × Nat)} {i : Nat} (hs : sync1 md ops all i = true) (j : Nat) (L : Array Bool) (hj : isSyn all j = true) (hi : i ∈ Region.ready md ops L) : j ∉ Region.ready md ops L := by
  intro hjr
  obtain ⟨p, hp, hpp⟩ := List.any_eq_true.1 hj
  simp only [Bool.and_eq_true, beq_iff_eq] at hpp
  have h := List.all_eq_true.1 hs p hp
  simp only [hpp.1, hpp.2, bne_self_eq_false, Bool.false_or, Bool.or_eq_true] at h
  rcases h with h | h
  · exact waits_spec h hjr hi
  · exact waits_spec h hi hjr
end Go.Hv
namespace Go.Hv
/-! ### .. where some reads may come on either side of a write that does not touch them -/
/-- 0: it hangs on no heap; 1: it is read in the heap at hand; 2: a write that has its place; 3: it reads, and answers the same in every heap of the kind St; 4: a write that may come on either side of such a read: St stands behind it -/
def hmstep (P : Program) (ops : Array Oper) (St : Heap → Prop) (i t : Nat) (ih : F → Heap → Prop) (f : F) (h : Heap) : Prop := match ops[i]? with
      | none => False
      | some o => match t with
        | 0 => (match o.guard with
          | none => tf P (xop (ev f) o) (fun v => ih (put f o.dst v) h)
          | some _ => whenf (wants ops f o) (tf P (xop (ev f) o)) (fun v => ih (put f o.dst v) h))
        | 1 => (match o.guard with
          | none => headq P (xop (ev f) o) (fun v => ih (put f o.dst v) h) h
          | some _ => whenq (wants ops f o) (headq P (xop (ev f) o)) (fun v => ih (put f o.dst v) h) h)
        | 3 => (match o.guard with
          | none => tk P St (xop (ev f) o) (fun v => ih (put f o.dst v) h) h
          | some _ => False)
        | 4 => (match o.guard with
          | none => run P (xop (ev f) o) (fun v h' => St h' ∧ ih (put f o.dst v) h') h
          | some _ => False)
        | _ => (match o.guard with
          | none => run P (xop (ev f) o) (fun v h' => ih (put f o.dst v) h') h
          | some _ => when (wants ops f o) (run P (xop (ev f) o)) (fun v h' => ih (put f o.dst v) h') h)
noncomputable def hmix (P : Program) (ops : Array Oper) (Q : F → Heap → Prop) (St : Heap → Prop) (plan : List (Nat × Nat)) : F → Heap → Prop :=
  List.rec (motive := fun _ => F → Heap → Prop) (fun f h => Q f h) (fun p _ ih f h => hmstep P ops St p.1 p.2 ih f h) plan
theorem hmix_cons (P : Program) (ops : Array Oper) (Q : F → Heap → Prop) (St : Heap → Prop) (i t : Nat) (plan : List (Nat × Nat)) (f : F) (h : Heap) : hmix P ops Q St ((i, t) :: plan) f h = hmstep P ops St i t (hmix P ops Q St plan) f h := rfl

def wpY (P : Program) (md : Region.Mode) (ops : Array Oper) (Q : Exit → Act → World → Prop) (B0 B : World → Prop) (syn weak : Nat → Bool) : Nat → (World → Prop) → Array Bool → Act → World → Prop
  | 0, _, L, a, w => Region.ready md ops L = [] ∧ Q .normal a w
  | n + 1, S, L, a, w => (Region.ready md ops L = [] → Q .normal a w) ∧
    ∀ i ∈ Region.ready md ops L, wpOp P ops Q i (fun a' w' => B0 w' ∧ (weak i = true → B w') ∧ (syn i = false → B w → B w') ∧ ∃ S', (syn i = false → S' = S) ∧ S' w' ∧ wpY P md ops Q B0 B syn weak n S' (L.setIfInBounds i true) a' w') a w
theorem wpAny_of_Y {P : Program} {md : Region.Mode} {ops : Array Oper} {Q : Exit → Act → World → Prop} {B0 B : World → Prop} {syn weak : Nat → Bool} : ∀ (n : Nat) (S : World → Prop) (L : Array Bool) (a : Act) (w : World), wpY P md ops Q B0 B syn weak n S L a w → wpAny P md ops Q n L a w
  | 0, _, _, _, _, h => h
  | n + 1, _, _, _, _, h => ⟨h.1, fun i hi => wpOp_mono (fun _ _ h' => let ⟨_, _, _, _, _, _, h3⟩ := h'; wpAny_of_Y n _ _ _ _ h3) (h.2 i hi)⟩
theorem wpY_first {P : Program} {md : Region.Mode} {ops : Array Oper} {Q : Exit → Act → World → Prop} {B0 B : World → Prop} {syn weak : Nat → Bool} {i : Nat} {oi : Oper} {v : Value} (hi : ops[i]? = some oi) (hni : syn i = false) (hwi : weak i = false) (hsel : ∀ (j : Nat) (o : Oper) cs b, ops[j]? = some o → o.op ≠ .select cs b)
    (hQ : ∀ c a w, Q (.panic c) (a.put oi.dst v) w → Q (.panic c) a w) :
    ∀ (n : Nat) (S T : World → Prop) (L : Array Bool) (a : Act) (w : World),
      (∀ j oj, ops[j]? = some oj → j ≠ i → L.getD j true = false → (∀ e ∈ oj.after, Region.binds md e = true → e.on ≠ i) → oi.apart ops oj = true) →
      i ∈ Region.ready md ops L → ((T = S ∧ ∀ j L, syn j = true → i ∈ Region.ready md ops L → j ∉ Region.ready md ops L) ∨ T = B0 ∨ (T = B ∧ ∀ j L, syn j = true → weak j = false → i ∈ Region.ready md ops L → j ∉ Region.ready md ops L)) → YieldsIf P ops T oi v a → T w → B0 w → S w →
      wpY P md ops Q B0 B syn weak n S (L.setIfInBounds i true) (a.put oi.dst v) w → wpY P md ops Q B0 B syn weak (n + 1) S L a w := by
  intro n
  induction n with
  | zero =>
    intro S T L a w _ hr hT hy hTw hB hS H
    refine ⟨fun h => (by rw [h] at hr; cases hr), fun j hj => ?_⟩
    by_cases hji : j = i
    · subst hji; exact hy.wpOp hi hTw ⟨hB, fun h => (by rw [hwi] at h; cases h), fun _ h => h, S, fun _ => rfl, hS, H⟩
    · have := ready_mono hj hji
      rw [H.1] at this
      cases this
  | succ n ih =>
    intro S T L a w hfree hr hT hy hTw hB hS H
    refine ⟨fun h => (by rw [h] at hr; cases hr), fun j hj => ?_⟩
    by_cases hji : j = i
    · subst hji; exact hy.wpOp hi hTw ⟨hB, fun h => (by rw [hwi] at h; cases h), fun _ h => h, S, fun _ => rfl, hS, H⟩
    · have h1 := H.2 j (ready_mono hj hji)
      obtain ⟨hjun, oj, hoj, hall⟩ := mem_ready.1 hj
      have hnot : ∀ e ∈ oj.after, Region.binds md e = true → e.on ≠ i := fun e he hb heq => by
        have h1 := hall e he hb
        have h0 := (mem_ready.1 hr).1
        rw [heq] at h1
        rcases Nat.lt_or_ge i L.size with h' | h'
        · simp [h'] at h0 h1; rw [h0] at h1; cases h1
        · simp [Array.getElem?_eq_none h'] at h1
      have h2 := wpOp_putIf hoj (hfree j oj hoj hji hjun hnot) (fun cs b => hsel i oi cs b hi) (fun cs b => hsel j oj cs b hoj) hQ hy h1
      have hfree' : ∀ k ok, ops[k]? = some ok → k ≠ i → (L.setIfInBounds j true).getD k true = false →
          (∀ e ∈ ok.after, Region.binds md e = true → e.on ≠ i) → oi.apart ops ok = true := fun k ok hk hki hun hno => by
        refine hfree k ok hk hki ?_ hno
        by_cases hjk : j = k
        · subst hjk; exact hjun
        · rw [getD_set_ne true hjk] at hun; exact hun
      refine wpOp_mono (fun a' w' h3 => ?_) h2
      obtain ⟨hy', hB', hW', hN', S', hS1, hS2, H'⟩ := h3
      refine ⟨hB', hW', hN', S', hS1, hS2, ?_⟩
      rw [Array.setIfInBounds_comm _ _ (Ne.symm hji)] at H'
      rcases hT with ⟨rfl, hco⟩ | rfl | ⟨rfl, hco⟩
      · have hj0 : syn j = false := by
          cases hs : syn j with
          | false => rfl
          | true => exact absurd hj (hco j L hs hr)
        have := hS1 hj0
        subst this
        exact ih _ _ (L.setIfInBounds j true) a' w' hfree' (ready_mono hr (Ne.symm hji)) (.inl ⟨rfl, hco⟩) hy' hS2 hB' hS2 H'
      · exact ih S' _ (L.setIfInBounds j true) a' w' hfree' (ready_mono hr (Ne.symm hji)) (.inr (.inl rfl)) hy' hB' hB' hS2 H'
      · have hTw' : T w' := by
          cases hs : syn j with
          | false => exact hN' hs hTw
          | true => cases hw : weak j with
            | true => exact hW' hw
            | false => exact absurd hj (hco j L hs hw hr)
        exact ih S' _ (L.setIfInBounds j true) a' w' hfree' (ready_mono hr (Ne.symm hji)) (.inr (.inr ⟨rfl, hco⟩)) hy' hTw' hB' hS2 H'

def isSynM (plan : List (Nat × Nat)) (i : Nat) : Bool := plan.any fun p => p.1 == i && (p.2 == 2 || p.2 == 4)
def isWeak (plan : List (Nat × Nat)) (i : Nat) : Bool := plan.any fun p => p.1 == i && p.2 == 4
def sync2 (md : Region.Mode) (ops : Array Oper) (all : List (Nat × Nat)) (k : Nat) : Bool := all.all fun p => (p.2 != 2 && p.2 != 4) || waits md ops p.1 k || waits md ops k p.1
def sync3 (md : Region.Mode) (ops : Array Oper) (all : List (Nat × Nat)) (k : Nat) : Bool := all.all fun p => p.2 != 2 || waits md ops p.1 k || waits md ops k p.1
def planOkM (ops : Array Oper) (all : List (Nat × Nat)) : List (Nat × Nat) → Array Bool → Bool
  | [], L => Region.ready .any ops L == []
  | (i, 0) :: l, L => !isSynM all i && !isWeak all i && Region.free .any ops L i && (Region.ready .any ops L).contains i && planOkM ops all l (L.setIfInBounds i true)
  | (i, 1) :: l, L => !isSynM all i && !isWeak all i && sync2 .any ops all i && Region.free .any ops L i && (Region.ready .any ops L).contains i && planOkM ops all l (L.setIfInBounds i true)
  | (i, 2) :: l, L => isSynM all i && !isWeak all i && Region.ready .any ops L == [i] && planOkM ops all l (L.setIfInBounds i true)
  | (i, 3) :: l, L => !isSynM all i && !isWeak all i && sync3 .any ops all i && Region.free .any ops L i && (Region.ready .any ops L).contains i && planOkM ops all l (L.setIfInBounds i true)
  | (i, 4) :: l, L => isSynM all i && Region.ready .any ops L == [i] && planOkM ops all l (L.setIfInBounds i true)
  | _, _ => false
theorem sync2_spec {md : Region.Mode} {ops : Array Oper} {all : List (Nat × Nat)} {i : Nat} (hs : sync2 md ops all i = true) (j : Nat) (L : Array Bool) (hj : isSynM all j = true) (hi : i ∈ Region.ready md ops L) : j ∉ Region.ready md ops L := by
  intro hjr
  obtain ⟨p, hp, hpp⟩ := List.any_eq_true.1 hj
  simp only [Bool.and_eq_true, beq_iff_eq, Bool.or_eq_true] at hpp
  have h := List.all_eq_true.1 hs p hp
  have hne : (p.2 != 2 && p.2 != 4) = false := by rcases hpp.2 with h | h <;> simp [h]
  simp only [hpp.1, hne, Bool.false_or, Bool.or_eq_true] at h
  rcases h with h | h
  · exact waits_spec h hjr hi
  · exact waits_spec h hi hjr
theorem sync3_spec {md : Region.Mode} {ops : Array Oper} {all : List (Nat × Nat)} {i : Nat} (hs : sync3 md ops all i = true) (j : Nat) (L : Array Bool) (hj : isSynM all j = true) (hw : isWeak all j = false) (hi : i ∈ Region.ready md ops L) : j ∉ Region.ready md ops L := by
  intro hjr
  obtain ⟨p, hp, hpp⟩ := List.any_eq_true.1 hj
  simp only [Bool.and_eq_true, beq_iff_eq, Bool.or_eq_true] at hpp
  have h := List.all_eq_true.1 hs p hp
  have hne : p.2 = 2 := by
    rcases hpp.2 with h | h
    · exact h
    · exfalso
      have : isWeak all j = true := List.any_eq_true.2 ⟨p, hp, by simp [hpp.1, h]⟩
      rw [hw] at this; cases this
  simp only [hpp.1, hne, bne_self_eq_false, Bool.false_or, Bool.or_eq_true] at h
  rcases h with h | h
  · exact waits_spec h hjr hi
  · exact waits_spec h hi hjr

/-- a plan with choices: two writes stand ready, whichever comes first -/
inductive PT where
  | done
  | op (i t : Nat) (k : PT)
  | two (i j : Nat) (a b : PT)
def PT.len : PT → Nat
  | .done => 0
  | .op _ _ k => k.len + 1
  | .two _ _ a _ => a.len + 1
/-- one way through it -/
def PT.path : PT → List (Nat × Nat)
  | .done => []
  | .op i t k => (i, t) :: k.path
  | .two i _ a _ => (i, 4) :: a.path
noncomputable def htree (P : Program) (ops : Array Oper) (Q : F → Heap → Prop) (St : Heap → Prop) (t : PT) : F → Heap → Prop :=
  PT.rec (motive := fun _ => F → Heap → Prop) (fun f h => Q f h) (fun i t _ ih f h => hmstep P ops St i t ih f h)
    (fun i j _ _ iha ihb f h => hmstep P ops St i 4 iha f h ∧ hmstep P ops St j 4 ihb f h) t
def headOkM (ops : Array Oper) (all : List (Nat × Nat)) (i t : Nat) (L : Array Bool) : Bool :=
  match t with
  | 0 => !isSynM all i && !isWeak all i && Region.free .any ops L i && (Region.ready .any ops L).contains i
  | 1 => !isSynM all i && !isWeak all i && sync2 .any ops all i && Region.free .any ops L i && (Region.ready .any ops L).contains i
  | 2 => isSynM all i && !isWeak all i && Region.ready .any ops L == [i]
  | 3 => !isSynM all i && !isWeak all i && sync3 .any ops all i && Region.free .any ops L i && (Region.ready .any ops L).contains i
  | 4 => isSynM all i && Region.ready .any ops L == [i]
  | _ => false
def planOkT (ops : Array Oper) (all : List (Nat × Nat)) : PT → Array Bool → Bool
  | .done, L => Region.ready .any ops L == []
  | .op i t k, L => headOkM ops all i t L && planOkT ops all k (L.setIfInBounds i true)
  | .two i j a b, L => isSynM all i && isSynM all j && Region.ready .any ops L == [i, j] && (a.len == b.len) && planOkT ops all a (L.setIfInBounds i true) && planOkT ops all b (L.setIfInBounds j true)
end Go.Hv
namespace Go.Hv
inductive RM where
  | quiet
  | tail (n : Nat)
  | held (plan : List (Nat × Bool))
  | sync (plan : List (Nat × Nat))
  | mixed (plan : List (Nat × Nat))
  | tree (t : PT)

def thenQ (K : F → Heap → Prop) (Q : Exit → F → Heap → Prop) : Exit → F → Heap → Prop
  | .normal, f, h => K f h
  | e, f, h => Q e f h
def inB (id : Nat) (Q : Exit → F → Heap → Prop) : Exit → F → Heap → Prop
  | .exit id', f, h => if id' = id then Q .normal f h else Q (.exit id') f h
  | e, f, h => Q e f h
/-- a test -/
def br (v : Value) (A B : Prop) : Prop := ∃ t, v = .bool t ∧ (if t = true then A else B)
/-- a loop: an invariant of a rank that each round lowers -/
def lp (B : (Exit → F → Heap → Prop) → F → Heap → Prop) (Q : Exit → F → Heap → Prop) (f : F) (h : Heap) : Prop :=
  ∃ I : Nat → F → Heap → Prop, (∃ k, I k f h) ∧ ∀ k f h, I k f h → B (thenQ (fun f' h' => ∃ k', k' < k ∧ I k' f' h') Q) f h

def hreg (P : Program) (md : Nat → RM) (id : Nat) (ops : Array Oper) (draw : Bool) (Q : Exit → F → Heap → Prop) (f : F) (h : Heap) : Prop :=
  match draw with
    | false => hops P ops (Q .normal) ops.toList f h
    | true => match md id with
      | .quiet => hquiet P ops (fun f => Q .normal f h) h ops.toList f
      | .tail n => hstill P ops (fun f => hops P ops (Q .normal) (ops.toList.drop n) f h) h (ops.toList.take n) f
      | .held plan => ∃ St : Heap → Prop, hheld P ops (Q .normal) St plan f h
      | .sync plan => hsync P ops (Q .normal) plan f h
      | .mixed plan => ∃ St : Heap → Prop, hmix P ops (Q .normal) St plan f h
      | .tree t => ∃ St : Heap → Prop, htree P ops (Q .normal) St t f h
noncomputable def hcode (P : Program) (md : Nat → RM) (c : Code) : (Exit → F → Heap → Prop) → F → Heap → Prop :=
  Code.rec (motive := fun _ => (Exit → F → Heap → Prop) → F → Heap → Prop)
    (fun Q f h => Q .normal f h)
    (fun id ops draw => hreg P md id ops draw)
    (fun _ _ A B Q f h => A (thenQ (B Q) Q) f h)
    (fun c _ _ A B Q f h => br (ev f c) (A Q f h) (B Q f h))
    (fun id _ A Q f h => A (inB id Q) f h)
    (fun _ A Q f h => lp A Q f h)
    (fun _ _ _ _ _ _ _ _ _ => False)
    (fun id Q f h => Q (.exit id) f h)
    (fun _ _ _ _ _ => False)
    (fun _ Q f h => Q .normal f h)
    (fun l Q f h => Q (.goto l) f h)
    (fun Q f h => Q .ret f h)
    (fun _ _ _ _ => False)
    c

def codeOk (n : Nat) (md : Nat → RM) : Code → Bool
  | .region id ops draw => opsOk n ops && (match draw with
    | false => true
    | true => match md id with
      | .quiet => Region.lexB .any ops
      | .tail k => Region.lexTailB .any ops k
      | .held plan => Region.noSelect ops && decide (plan.length = ops.size) && planOk ops plan (Array.replicate ops.size false)
      | .sync plan => Region.noSelect ops && decide (plan.length = ops.size) && planOkS ops plan plan (Array.replicate ops.size false)
      | .mixed plan => Region.noSelect ops && decide (plan.length = ops.size) && planOkM ops plan plan (Array.replicate ops.size false)
      | .tree t => Region.noSelect ops && decide (t.len = ops.size) && planOkT ops t.path t (Array.replicate ops.size false))
  | .seq a b | .cond _ a b => codeOk n md a && codeOk n md b
  | .block _ c | .loop c => codeOk n md c
  | _ => true

theorem lift_mono {E : Env} {n : Nat} {Q Q' : Exit → F → Heap → Prop} (h : ∀ e f h, Q e f h → Q' e f h) (e : Exit) (a : Act) (w : World) (hl : lift E n Q e a w) : lift E n Q' e a w :=
  let ⟨f, hp, h1, h2, h3⟩ := hl; ⟨f, hp, h1, h2, h _ _ _ h3⟩

theorem hstill_sound {P : Program} {ops : Array Oper} {n : Nat} {E : Env} {h : Heap} {Q : F → Prop} {w : World} (hall : opsOk n ops = true) (ha : At E h w) :
    ∀ (l : List Oper), l.all (operOk n) = true → ∀ {f a}, hstill P ops Q h l f → Fits n f a → wpStill P ops w (fun a => ∃ f, Fits n f a ∧ Q f) l a := by
  intro l
  induction l with
  | nil => intro _ f a hh hf; exact ⟨f, hf, hh⟩
  | cons o rest ih =>
    intro hl f a hh hf
    simp only [List.all_cons, Bool.and_eq_true] at hl
    have hw := hf.wants hall o
    unfold wpStill
    rw [hw]
    have hh' : if wants ops f o then headq P (xop (ev f) o) (fun x => hstill P ops Q h rest (Hv.put f o.dst x)) h else hstill P ops Q h rest (Hv.put f o.dst undef) := by
      rw [hstill_cons] at hh
      cases hg : o.guard with
      | none => rw [hg] at hh; simp only [wants, hg]; exact hh
      | some g => rw [hg] at hh; exact hh
    split
    · rename_i hwt
      rw [if_pos hwt] at hh'
      obtain ⟨x, hr, hk⟩ := hh'
      obtain ⟨rfl, h2, h3, h4⟩ := ha
      unfold Oper.still
      rw [hf.eval, ← operOk.xop hl.1 f, run_of_rd' hr]
      exact ⟨rfl, ih hl.2 hk (hf.put (operOk.dst hl.1) _)⟩
    · rename_i hwt
      rw [if_neg hwt] at hh'
      exact ih hl.2 hh' (hf.put (operOk.dst hl.1) _)

theorem wpStill_mono {P : Program} {ops : Array Oper} {w : World} {Q Q' : Act → Prop} (h : ∀ a, Q a → Q' a) : ∀ (l : List Oper) (a : Act), wpStill P ops w Q l a → wpStill P ops w Q' l a := by
  intro l
  induction l with
  | nil => intro a hh; exact h a hh
  | cons o rest ih =>
    intro a hh
    unfold wpStill at hh ⊢
    split
    · rename_i hw; rw [if_pos hw] at hh; exact Oper.still_mono ih hh
    · rename_i hw; rw [if_neg hw] at hh; exact ih _ hh
theorem wpQuiet_mono {P : Program} {ops : Array Oper} {C : World → Prop} {Q Q' : Act → Prop} (h : ∀ a, Q a → Q' a) : ∀ (l : List Oper) (a : Act), wpQuiet P ops C Q l a → wpQuiet P ops C Q' l a := by
  intro l
  induction l with
  | nil => intro a hh; exact h a hh
  | cons o rest ih =>
    intro a hh
    unfold wpQuiet at hh ⊢
    split
    · rename_i hw; rw [if_pos hw] at hh; exact Oper.quiet_mono ih hh
    · rename_i hw; rw [if_neg hw] at hh; exact ih _ hh

theorem all_drop {α : Type} {p : α → Bool} {l : List α} (h : l.all p = true) (k : Nat) : (l.drop k).all p = true :=
  List.all_eq_true.2 fun x hx => List.all_eq_true.1 h x (List.mem_of_mem_drop hx)
theorem all_take {α : Type} {p : α → Bool} {l : List α} (h : l.all p = true) (k : Nat) : (l.take k).all p = true :=
  List.all_eq_true.2 fun x hx => List.all_eq_true.1 h x (List.mem_of_mem_take hx)

theorem hheld_sound {P : Program} {ops : Array Oper} {n : Nat} {E : Env} {St : Heap → Prop} {Q : F → Heap → Prop} (hall : opsOk n ops = true) (hs : Region.noSelect ops = true) :
    ∀ (plan : List (Nat × Bool)) (listed : Array Bool), planOk ops plan listed = true → ∀ {f h a w}, hheld P ops Q St plan f h → Fits n f a → At E h w →
      wpAnyH P .any ops (fun e a w => e = .normal ∧ lift E n (fun _ f h => Q f h) .normal a w) (fun w => ∃ h, At E h w ∧ St h) plan.length listed a w := by
  intro plan
  induction plan with
  | nil =>
    intro listed hok f h a w hh hf ha
    have hr : Region.ready .any ops listed = [] := by simpa [planOk] using hok
    exact wpAnyH_done hr ⟨rfl, f, h, hf, ha, hh⟩ 0
  | cons p plan ih =>
    intro listed hok f h a w hh hf ha
    obtain ⟨i, t⟩ := p
    rw [hheld_cons, hhstep] at hh
    cases hi : ops[i]? with
    | none => rw [hi] at hh; exact hh.elim
    | some o =>
      rw [hi] at hh
      have hm : o ∈ ops.toList := by have := Array.mem_of_getElem? hi; simpa using this
      have ho : operOk n o = true := List.all_eq_true.1 hall o hm
      have hw := hf.wants hall o
      cases t with
      | true =>
        simp only [planOk, Bool.and_eq_true] at hok
        have hh' : if wants ops f o then tk P St (xop (ev f) o) (fun v => hheld P ops Q St plan (Hv.put f o.dst v) h) h else St h ∧ hheld P ops Q St plan (Hv.put f o.dst undef) h := by
          simp only at hh
          cases hg : o.guard with
          | none => rw [hg] at hh; simp only [wants, hg]; exact hh
          | some g => rw [hg] at hh; exact hh
        have key : ∃ v, YieldsIf P ops (fun w => ∃ h, At E h w ∧ St h) o v a ∧ St h ∧ hheld P ops Q St plan (Hv.put f o.dst v) h := by
          split at hh'
          · rename_i hwt
            obtain ⟨v, h1, h2, h3⟩ := hh'
            refine ⟨v, .inl ⟨by rw [hw]; exact hwt, ?_⟩, h1, h3⟩
            rintro w' ⟨h', ⟨rfl, _, _, _⟩, hst⟩
            rw [hf.eval, ← operOk.xop ho f]
            exact run_of_rd' (h2 _ hst)
          · rename_i hwt
            exact ⟨undef, .inr ⟨by rw [hw]; simpa using hwt, rfl⟩, hh'.1, hh'.2⟩
        obtain ⟨v, hy, hst, hk⟩ := key
        exact wpAnyH_take hi hs hok.1.1 hok.1.2 (fun c a w hq => absurd hq.1 (by simp)) hy ⟨h, ha, hst⟩ (ih _ hok.2 hk (hf.put (operOk.dst ho) _) ha)
      | false =>
        simp only [planOk, Bool.and_eq_true] at hok
        have hr : Region.ready .any ops listed = [i] := by simpa using hok.1
        refine wpAnyH_all hr (by simp) fun j hj => ?_
        obtain rfl : j = i := by simpa using hj
        have hh' : if wants ops f o then run P (xop (ev f) o) (fun v h' => St h' ∧ hheld P ops Q St plan (Hv.put f o.dst v) h') h else St h ∧ hheld P ops Q St plan (Hv.put f o.dst undef) h := by
          simp only at hh
          cases hg : o.guard with
          | none => rw [hg] at hh; simp only [wants, hg]; exact hh
          | some g => rw [hg] at hh; exact hh
        unfold wpOp
        simp only [hi]
        rw [hw]
        split
        · rename_i hwt
          rw [if_pos hwt] at hh'
          refine .inl (run_sound (E := E) (K := fun v h' => St h' ∧ hheld P ops Q St plan (Hv.put f o.dst v) h') ?_ ha ?_)
          · rw [hf.eval, ← operOk.xop ho f]; exact hh'
          · rintro v h' w' ha' ⟨hst, hk⟩
            exact ⟨⟨h', ha', hst⟩, ih _ hok.2 hk (hf.put (operOk.dst ho) _) ha'⟩
        · rename_i hwt
          rw [if_neg hwt] at hh'
          exact ⟨⟨h, ha, hh'.1⟩, ih _ hok.2 hh'.2 (hf.put (operOk.dst ho) _) ha⟩

theorem hsync_sound {P : Program} {ops : Array Oper} {n : Nat} {E : Env} {all : List (Nat × Nat)} {Q : F → Heap → Prop} (hall : opsOk n ops = true) (hs : Region.noSelect ops = true) :
    ∀ (plan : List (Nat × Nat)) (listed : Array Bool), planOkS ops all plan listed = true → ∀ {f h a w}, hsync P ops Q plan f h → Fits n f a → At E h w →
      wpX P .any ops (fun e a w => e = .normal ∧ lift E n (fun _ f h => Q f h) .normal a w) (fun w => ∃ h, At E h w) (isSyn all) plan.length (At E h) listed a w := by
  intro plan
  induction plan with
  | nil =>
    intro listed hok f h a w hh hf ha
    have hr : Region.ready .any ops listed = [] := by simpa [planOkS] using hok
    exact ⟨hr, rfl, f, h, hf, ha, hh⟩
  | cons p plan ih =>
    intro listed hok f h a w hh hf ha
    obtain ⟨i, t⟩ := p
    rw [hsync_cons, hsstep] at hh
    cases hi : ops[i]? with
    | none => rw [hi] at hh; exact hh.elim
    | some o =>
      rw [hi] at hh
      have hm : o ∈ ops.toList := by have := Array.mem_of_getElem? hi; simpa using this
      have ho : operOk n o = true := List.all_eq_true.1 hall o hm
      have hw := hf.wants hall o
      match t with
      | 0 =>
        simp only [planOkS, Bool.and_eq_true, Bool.not_eq_true'] at hok
        have hh' : if wants ops f o then tf P (xop (ev f) o) (fun v => hsync P ops Q plan (Hv.put f o.dst v) h) else hsync P ops Q plan (Hv.put f o.dst undef) h := by
          simp only at hh
          cases hg : o.guard with
          | none => rw [hg] at hh; simp only [wants, hg]; exact hh
          | some g => rw [hg] at hh; exact hh
        have key : ∃ v, YieldsIf P ops (fun w => ∃ h, At E h w) o v a ∧ hsync P ops Q plan (Hv.put f o.dst v) h := by
          split at hh'
          · rename_i hwt
            obtain ⟨v, h2, h3⟩ := hh'
            refine ⟨v, .inl ⟨by rw [hw]; exact hwt, ?_⟩, h3⟩
            rintro w' ⟨h', ⟨rfl, _, _, _⟩⟩
            rw [hf.eval, ← operOk.xop ho f]
            exact run_of_rd' (h2 _)
          · rename_i hwt
            exact ⟨undef, .inr ⟨by rw [hw]; simpa using hwt, rfl⟩, hh'⟩
        obtain ⟨v, hy, hk⟩ := key
        exact wpX_first hi hok.1.1.1 (Region.noSelect_spec hs) (fun c a w hq => absurd hq.1 (by simp)) _ _ _ listed a w (Region.free_spec hi hok.1.1.2) (by simpa using hok.1.2) (.inr rfl) hy ⟨h, ha⟩ ⟨h, ha⟩ ha
          (ih _ hok.2 hk (hf.put (operOk.dst ho) _) ha)
      | 1 =>
        simp only [planOkS, Bool.and_eq_true, Bool.not_eq_true'] at hok
        have hh' : if wants ops f o then headq P (xop (ev f) o) (fun v => hsync P ops Q plan (Hv.put f o.dst v) h) h else hsync P ops Q plan (Hv.put f o.dst undef) h := by
          simp only at hh
          cases hg : o.guard with
          | none => rw [hg] at hh; simp only [wants, hg]; exact hh
          | some g => rw [hg] at hh; exact hh
        have key : ∃ v, YieldsIf P ops (At E h) o v a ∧ hsync P ops Q plan (Hv.put f o.dst v) h := by
          split at hh'
          · rename_i hwt
            obtain ⟨v, h2, h3⟩ := hh'
            refine ⟨v, .inl ⟨by rw [hw]; exact hwt, ?_⟩, h3⟩
            rintro w' ⟨rfl, _, _, _⟩
            rw [hf.eval, ← operOk.xop ho f]
            exact run_of_rd' h2
          · rename_i hwt
            exact ⟨undef, .inr ⟨by rw [hw]; simpa using hwt, rfl⟩, hh'⟩
        obtain ⟨v, hy, hk⟩ := key
        exact wpX_first hi hok.1.1.1.1 (Region.noSelect_spec hs) (fun c a w hq => absurd hq.1 (by simp)) _ _ _ listed a w (Region.free_spec hi hok.1.1.2) (by simpa using hok.1.2) (.inl ⟨rfl, fun j L hj hr => sync1_spec hok.1.1.1.2 j L hj hr⟩) hy ha ⟨h, ha⟩ ha
          (ih _ hok.2 hk (hf.put (operOk.dst ho) _) ha)
      | 2 =>
        simp only [planOkS, Bool.and_eq_true] at hok
        have hr : Region.ready .any ops listed = [i] := by simpa using hok.1.2
        refine ⟨fun h0 => (by rw [hr] at h0; cases h0), ?_⟩
        rw [hr]
        intro j hj
        obtain rfl : j = i := by simpa using hj
        have hh' : if wants ops f o then run P (xop (ev f) o) (fun v h' => hsync P ops Q plan (Hv.put f o.dst v) h') h else hsync P ops Q plan (Hv.put f o.dst undef) h := by
          simp only at hh
          cases hg : o.guard with
          | none => rw [hg] at hh; simp only [wants, hg]; exact hh
          | some g => rw [hg] at hh; exact hh
        unfold wpOp
        simp only [hi]
        rw [hw]
        split
        · rename_i hwt
          rw [if_pos hwt] at hh'
          refine .inl (run_sound (E := E) (K := fun v h' => hsync P ops Q plan (Hv.put f o.dst v) h') ?_ ha ?_)
          · rw [hf.eval, ← operOk.xop ho f]; exact hh'
          · rintro v h' w' ha' hk
            exact ⟨⟨h', ha'⟩, At E h', fun hc => (by rw [hok.1.1] at hc; cases hc), ha', ih _ hok.2 hk (hf.put (operOk.dst ho) _) ha'⟩
        · rename_i hwt
          rw [if_neg hwt] at hh'
          exact ⟨⟨h, ha⟩, At E h, fun _ => rfl, ha, ih _ hok.2 hh' (hf.put (operOk.dst ho) _) ha⟩
      | _ + 3 => simp [planOkS] at hok

theorem hmix_sound {P : Program} {ops : Array Oper} {n : Nat} {E : Env} {all : List (Nat × Nat)} {St : Heap → Prop} {Q : F → Heap → Prop} (hall : opsOk n ops = true) (hs : Region.noSelect ops = true) :
    ∀ (plan : List (Nat × Nat)) (listed : Array Bool), planOkM ops all plan listed = true → ∀ {f h a w}, hmix P ops Q St plan f h → Fits n f a → At E h w →
      wpY P .any ops (fun e a w => e = .normal ∧ lift E n (fun _ f h => Q f h) .normal a w) (fun w => ∃ h, At E h w) (fun w => ∃ h, At E h w ∧ St h) (isSynM all) (isWeak all) plan.length (At E h) listed a w := by
  intro plan
  induction plan with
  | nil =>
    intro listed hok f h a w hh hf ha
    have hr : Region.ready .any ops listed = [] := by simpa [planOkM] using hok
    exact ⟨hr, rfl, f, h, hf, ha, hh⟩
  | cons p plan ih =>
    intro listed hok f h a w hh hf ha
    obtain ⟨i, t⟩ := p
    rw [hmix_cons, hmstep] at hh
    cases hi : ops[i]? with
    | none => rw [hi] at hh; exact hh.elim
    | some o =>
      rw [hi] at hh
      have hm : o ∈ ops.toList := by have := Array.mem_of_getElem? hi; simpa using this
      have ho : operOk n o = true := List.all_eq_true.1 hall o hm
      have hw := hf.wants hall o
      match t with
      | 0 =>
        simp only [planOkM, Bool.and_eq_true, Bool.not_eq_true'] at hok
        have hh' : if wants ops f o then tf P (xop (ev f) o) (fun v => hmix P ops Q St plan (Hv.put f o.dst v) h) else hmix P ops Q St plan (Hv.put f o.dst undef) h := by
          simp only at hh
          cases hg : o.guard with
          | none => rw [hg] at hh; simp only [wants, hg]; exact hh
          | some g => rw [hg] at hh; exact hh
        have key : ∃ v, YieldsIf P ops (fun w => ∃ h, At E h w) o v a ∧ hmix P ops Q St plan (Hv.put f o.dst v) h := by
          split at hh'
          · rename_i hwt
            obtain ⟨v, h2, h3⟩ := hh'
            refine ⟨v, .inl ⟨by rw [hw]; exact hwt, ?_⟩, h3⟩
            rintro w' ⟨h', ⟨rfl, _, _, _⟩⟩
            rw [hf.eval, ← operOk.xop ho f]
            exact run_of_rd' (h2 _)
          · rename_i hwt
            exact ⟨undef, .inr ⟨by rw [hw]; simpa using hwt, rfl⟩, hh'⟩
        obtain ⟨v, hy, hk⟩ := key
        exact wpY_first hi hok.1.1.1.1 hok.1.1.1.2 (Region.noSelect_spec hs) (fun c a w hq => absurd hq.1 (by simp)) _ _ _ listed a w (Region.free_spec hi hok.1.1.2) (by simpa using hok.1.2) (.inr (.inl rfl)) hy ⟨h, ha⟩ ⟨h, ha⟩ ha
          (ih _ hok.2 hk (hf.put (operOk.dst ho) _) ha)
      | 1 =>
        simp only [planOkM, Bool.and_eq_true, Bool.not_eq_true'] at hok
        have hh' : if wants ops f o then headq P (xop (ev f) o) (fun v => hmix P ops Q St plan (Hv.put f o.dst v) h) h else hmix P ops Q St plan (Hv.put f o.dst undef) h := by
          simp only at hh
          cases hg : o.guard with
          | none => rw [hg] at hh; simp only [wants, hg]; exact hh
          | some g => rw [hg] at hh; exact hh
        have key : ∃ v, YieldsIf P ops (At E h) o v a ∧ hmix P ops Q St plan (Hv.put f o.dst v) h := by
          split at hh'
          · rename_i hwt
            obtain ⟨v, h2, h3⟩ := hh'
            refine ⟨v, .inl ⟨by rw [hw]; exact hwt, ?_⟩, h3⟩
            rintro w' ⟨rfl, _, _, _⟩
            rw [hf.eval, ← operOk.xop ho f]
            exact run_of_rd' h2
          · rename_i hwt
            exact ⟨undef, .inr ⟨by rw [hw]; simpa using hwt, rfl⟩, hh'⟩
        obtain ⟨v, hy, hk⟩ := key
        exact wpY_first hi hok.1.1.1.1.1 hok.1.1.1.1.2 (Region.noSelect_spec hs) (fun c a w hq => absurd hq.1 (by simp)) _ _ _ listed a w (Region.free_spec hi hok.1.1.2) (by simpa using hok.1.2) (.inl ⟨rfl, fun j L hj hr => sync2_spec hok.1.1.1.2 j L hj hr⟩) hy ha ⟨h, ha⟩ ha
          (ih _ hok.2 hk (hf.put (operOk.dst ho) _) ha)
      | 2 =>
        simp only [planOkM, Bool.and_eq_true, Bool.not_eq_true'] at hok
        have hr : Region.ready .any ops listed = [i] := by simpa using hok.1.2
        refine ⟨fun h0 => (by rw [hr] at h0; cases h0), ?_⟩
        rw [hr]
        intro j hj
        obtain rfl : j = i := by simpa using hj
        have hh' : if wants ops f o then run P (xop (ev f) o) (fun v h' => hmix P ops Q St plan (Hv.put f o.dst v) h') h else hmix P ops Q St plan (Hv.put f o.dst undef) h := by
          simp only at hh
          cases hg : o.guard with
          | none => rw [hg] at hh; simp only [wants, hg]; exact hh
          | some g => rw [hg] at hh; exact hh
        unfold wpOp
        simp only [hi]
        rw [hw]
        split
        · rename_i hwt
          rw [if_pos hwt] at hh'
          refine .inl (run_sound (E := E) (K := fun v h' => hmix P ops Q St plan (Hv.put f o.dst v) h') ?_ ha ?_)
          · rw [hf.eval, ← operOk.xop ho f]; exact hh'
          · rintro v h' w' ha' hk
            exact ⟨⟨h', ha'⟩, fun hc => (by rw [hok.1.1.2] at hc; cases hc), fun hc => (by rw [hok.1.1.1] at hc; cases hc), At E h', fun hc => (by rw [hok.1.1.1] at hc; cases hc), ha', ih _ hok.2 hk (hf.put (operOk.dst ho) _) ha'⟩
        · rename_i hwt
          rw [if_neg hwt] at hh'
          exact ⟨⟨h, ha⟩, fun hc => (by rw [hok.1.1.2] at hc; cases hc), fun hc => (by rw [hok.1.1.1] at hc; cases hc), At E h, fun _ => rfl, ha, ih _ hok.2 hh' (hf.put (operOk.dst ho) _) ha⟩
      | 3 =>
        simp only [planOkM, Bool.and_eq_true, Bool.not_eq_true'] at hok
        simp only at hh
        cases hg : o.guard with
        | some g => rw [hg] at hh; exact hh.elim
        | none =>
          rw [hg] at hh
          obtain ⟨v, h1, h2, h3⟩ := hh
          have hy : YieldsIf P ops (fun w => ∃ h, At E h w ∧ St h) o v a := by
            refine .inl ⟨by simp [Region.wanted, hg], ?_⟩
            rintro w' ⟨h', ⟨rfl, _, _, _⟩, hst⟩
            rw [hf.eval, ← operOk.xop ho f]
            exact run_of_rd' (h2 _ hst)
          exact wpY_first hi hok.1.1.1.1.1 hok.1.1.1.1.2 (Region.noSelect_spec hs) (fun c a w hq => absurd hq.1 (by simp)) _ _ _ listed a w (Region.free_spec hi hok.1.1.2) (by simpa using hok.1.2) (.inr (.inr ⟨rfl, fun j L hj hw hr => sync3_spec hok.1.1.1.2 j L hj hw hr⟩)) hy ⟨h, ha, h1⟩ ⟨h, ha⟩ ha
            (ih _ hok.2 h3 (hf.put (operOk.dst ho) _) ha)
      | 4 =>
        simp only [planOkM, Bool.and_eq_true] at hok
        have hr : Region.ready .any ops listed = [i] := by simpa using hok.1.2
        refine ⟨fun h0 => (by rw [hr] at h0; cases h0), ?_⟩
        rw [hr]
        intro j hj
        obtain rfl : j = i := by simpa using hj
        simp only at hh
        cases hg : o.guard with
        | some g => rw [hg] at hh; exact hh.elim
        | none =>
          rw [hg] at hh
          unfold wpOp
          simp only [hi]
          rw [if_pos (by simp [Region.wanted, hg])]
          refine .inl (run_sound (E := E) (K := fun v h' => St h' ∧ hmix P ops Q St plan (Hv.put f o.dst v) h') ?_ ha ?_)
          · rw [hf.eval, ← operOk.xop ho f]; exact hh
          · rintro v h' w' ha' ⟨hst, hk⟩
            exact ⟨⟨h', ha'⟩, fun _ => ⟨h', ha', hst⟩, fun _ _ => ⟨h', ha', hst⟩, At E h', fun hc => (by rw [hok.1.1] at hc; cases hc), ha', ih _ hok.2 hk (hf.put (operOk.dst ho) _) ha'⟩
      | _ + 5 => simp [planOkM] at hok

theorem hmstep_sound {P : Program} {ops : Array Oper} {n m : Nat} {E : Env} {all : List (Nat × Nat)} {St : Heap → Prop} {Q : F → Heap → Prop} {i t : Nat} {ih : F → Heap → Prop} {listed : Array Bool} (hall : opsOk n ops = true) (hs : Region.noSelect ops = true) (hok : headOkM ops all i t listed = true)
    (hih : ∀ {f h a w}, ih f h → Fits n f a → At E h w → wpY P .any ops (fun e a w => e = .normal ∧ lift E n (fun _ f h => Q f h) .normal a w) (fun w => ∃ h, At E h w) (fun w => ∃ h, At E h w ∧ St h) (isSynM all) (isWeak all) m (At E h) (listed.setIfInBounds i true) a w) :
    ∀ {f h a w}, hmstep P ops St i t ih f h → Fits n f a → At E h w →
      wpY P .any ops (fun e a w => e = .normal ∧ lift E n (fun _ f h => Q f h) .normal a w) (fun w => ∃ h, At E h w) (fun w => ∃ h, At E h w ∧ St h) (isSynM all) (isWeak all) (m + 1) (At E h) listed a w := by
    intro f h a w hh hf ha
    rw [hmstep] at hh
    cases hi : ops[i]? with
    | none => rw [hi] at hh; exact hh.elim
    | some o =>
      rw [hi] at hh
      have hm : o ∈ ops.toList := by have := Array.mem_of_getElem? hi; simpa using this
      have ho : operOk n o = true := List.all_eq_true.1 hall o hm
      have hw := hf.wants hall o
      match t with
      | 0 =>
        simp only [headOkM, Bool.and_eq_true, Bool.not_eq_true'] at hok
        have hh' : if wants ops f o then tf P (xop (ev f) o) (fun v => ih (Hv.put f o.dst v) h) else ih (Hv.put f o.dst undef) h := by
          simp only at hh
          cases hg : o.guard with
          | none => rw [hg] at hh; simp only [wants, hg]; exact hh
          | some g => rw [hg] at hh; exact hh
        have key : ∃ v, YieldsIf P ops (fun w => ∃ h, At E h w) o v a ∧ ih (Hv.put f o.dst v) h := by
          split at hh'
          · rename_i hwt
            obtain ⟨v, h2, h3⟩ := hh'
            refine ⟨v, .inl ⟨by rw [hw]; exact hwt, ?_⟩, h3⟩
            rintro w' ⟨h', ⟨rfl, _, _, _⟩⟩
            rw [hf.eval, ← operOk.xop ho f]
            exact run_of_rd' (h2 _)
          · rename_i hwt
            exact ⟨undef, .inr ⟨by rw [hw]; simpa using hwt, rfl⟩, hh'⟩
        obtain ⟨v, hy, hk⟩ := key
        exact wpY_first hi hok.1.1.1 hok.1.1.2 (Region.noSelect_spec hs) (fun c a w hq => absurd hq.1 (by simp)) _ _ _ listed a w (Region.free_spec hi hok.1.2) (by simpa using hok.2) (.inr (.inl rfl)) hy ⟨h, ha⟩ ⟨h, ha⟩ ha
          (hih hk (hf.put (operOk.dst ho) _) ha)
      | 1 =>
        simp only [headOkM, Bool.and_eq_true, Bool.not_eq_true'] at hok
        have hh' : if wants ops f o then headq P (xop (ev f) o) (fun v => ih (Hv.put f o.dst v) h) h else ih (Hv.put f o.dst undef) h := by
          simp only at hh
          cases hg : o.guard with
          | none => rw [hg] at hh; simp only [wants, hg]; exact hh
          | some g => rw [hg] at hh; exact hh
        have key : ∃ v, YieldsIf P ops (At E h) o v a ∧ ih (Hv.put f o.dst v) h := by
          split at hh'
          · rename_i hwt
            obtain ⟨v, h2, h3⟩ := hh'
            refine ⟨v, .inl ⟨by rw [hw]; exact hwt, ?_⟩, h3⟩
            rintro w' ⟨rfl, _, _, _⟩
            rw [hf.eval, ← operOk.xop ho f]
            exact run_of_rd' h2
          · rename_i hwt
            exact ⟨undef, .inr ⟨by rw [hw]; simpa using hwt, rfl⟩, hh'⟩
        obtain ⟨v, hy, hk⟩ := key
        exact wpY_first hi hok.1.1.1.1 hok.1.1.1.2 (Region.noSelect_spec hs) (fun c a w hq => absurd hq.1 (by simp)) _ _ _ listed a w (Region.free_spec hi hok.1.2) (by simpa using hok.2) (.inl ⟨rfl, fun j L hj hr => sync2_spec hok.1.1.2 j L hj hr⟩) hy ha ⟨h, ha⟩ ha
          (hih hk (hf.put (operOk.dst ho) _) ha)
      | 2 =>
        simp only [headOkM, Bool.and_eq_true, Bool.not_eq_true'] at hok
        have hr : Region.ready .any ops listed = [i] := by simpa using hok.2
        refine ⟨fun h0 => (by rw [hr] at h0; cases h0), ?_⟩
        rw [hr]
        intro j hj
        obtain rfl : j = i := by simpa using hj
        have hh' : if wants ops f o then run P (xop (ev f) o) (fun v h' => ih (Hv.put f o.dst v) h') h else ih (Hv.put f o.dst undef) h := by
          simp only at hh
          cases hg : o.guard with
          | none => rw [hg] at hh; simp only [wants, hg]; exact hh
          | some g => rw [hg] at hh; exact hh
        unfold wpOp
        simp only [hi]
        rw [hw]
        split
        · rename_i hwt
          rw [if_pos hwt] at hh'
          refine .inl (run_sound (E := E) (K := fun v h' => ih (Hv.put f o.dst v) h') ?_ ha ?_)
          · rw [hf.eval, ← operOk.xop ho f]; exact hh'
          · rintro v h' w' ha' hk
            exact ⟨⟨h', ha'⟩, fun hc => (by rw [hok.1.2] at hc; cases hc), fun hc => (by rw [hok.1.1] at hc; cases hc), At E h', fun hc => (by rw [hok.1.1] at hc; cases hc), ha', hih hk (hf.put (operOk.dst ho) _) ha'⟩
        · rename_i hwt
          rw [if_neg hwt] at hh'
          exact ⟨⟨h, ha⟩, fun hc => (by rw [hok.1.2] at hc; cases hc), fun hc => (by rw [hok.1.1] at hc; cases hc), At E h, fun _ => rfl, ha, hih hh' (hf.put (operOk.dst ho) _) ha⟩
      | 3 =>
        simp only [headOkM, Bool.and_eq_true, Bool.not_eq_true'] at hok
        simp only at hh
        cases hg : o.guard with
        | some g => rw [hg] at hh; exact hh.elim
        | none =>
          rw [hg] at hh
          obtain ⟨v, h1, h2, h3⟩ := hh
          have hy : YieldsIf P ops (fun w => ∃ h, At E h w ∧ St h) o v a := by
            refine .inl ⟨by simp [Region.wanted, hg], ?_⟩
            rintro w' ⟨h', ⟨rfl, _, _, _⟩, hst⟩
            rw [hf.eval, ← operOk.xop ho f]
            exact run_of_rd' (h2 _ hst)
          exact wpY_first hi hok.1.1.1.1 hok.1.1.1.2 (Region.noSelect_spec hs) (fun c a w hq => absurd hq.1 (by simp)) _ _ _ listed a w (Region.free_spec hi hok.1.2) (by simpa using hok.2) (.inr (.inr ⟨rfl, fun j L hj hw hr => sync3_spec hok.1.1.2 j L hj hw hr⟩)) hy ⟨h, ha, h1⟩ ⟨h, ha⟩ ha
            (hih h3 (hf.put (operOk.dst ho) _) ha)
      | 4 =>
        simp only [headOkM, Bool.and_eq_true] at hok
        have hr : Region.ready .any ops listed = [i] := by simpa using hok.2
        refine ⟨fun h0 => (by rw [hr] at h0; cases h0), ?_⟩
        rw [hr]
        intro j hj
        obtain rfl : j = i := by simpa using hj
        simp only at hh
        cases hg : o.guard with
        | some g => rw [hg] at hh; exact hh.elim
        | none =>
          rw [hg] at hh
          unfold wpOp
          simp only [hi]
          rw [if_pos (by simp [Region.wanted, hg])]
          refine .inl (run_sound (E := E) (K := fun v h' => St h' ∧ ih (Hv.put f o.dst v) h') ?_ ha ?_)
          · rw [hf.eval, ← operOk.xop ho f]; exact hh
          · rintro v h' w' ha' ⟨hst, hk⟩
            exact ⟨⟨h', ha'⟩, fun _ => ⟨h', ha', hst⟩, fun _ _ => ⟨h', ha', hst⟩, At E h', fun hc => (by rw [hok.1] at hc; cases hc), ha', hih hk (hf.put (operOk.dst ho) _) ha'⟩
      | _ + 5 => simp [headOkM] at hok
theorem hweak_sound {P : Program} {ops : Array Oper} {n m : Nat} {E : Env} {all : List (Nat × Nat)} {St : Heap → Prop} {Q : F → Heap → Prop} {j : Nat} {ih : F → Heap → Prop} {listed : Array Bool} (hall : opsOk n ops = true) (hsyn : isSynM all j = true)
    (hih : ∀ {f h a w}, ih f h → Fits n f a → At E h w → wpY P .any ops (fun e a w => e = .normal ∧ lift E n (fun _ f h => Q f h) .normal a w) (fun w => ∃ h, At E h w) (fun w => ∃ h, At E h w ∧ St h) (isSynM all) (isWeak all) m (At E h) (listed.setIfInBounds j true) a w)
    {f h a w} (hh : hmstep P ops St j 4 ih f h) (hf : Fits n f a) (ha : At E h w) :
    wpOp P ops (fun e a w => e = .normal ∧ lift E n (fun _ f h => Q f h) .normal a w) j (fun a' w' => (∃ h, At E h w') ∧ (isWeak all j = true → ∃ h, At E h w' ∧ St h) ∧ (isSynM all j = false → (∃ h, At E h w ∧ St h) → ∃ h, At E h w' ∧ St h) ∧ ∃ S', (isSynM all j = false → S' = At E h) ∧ S' w' ∧ wpY P .any ops (fun e a w => e = .normal ∧ lift E n (fun _ f h => Q f h) .normal a w) (fun w => ∃ h, At E h w) (fun w => ∃ h, At E h w ∧ St h) (isSynM all) (isWeak all) m S' (listed.setIfInBounds j true) a' w') a w := by
  rw [hmstep] at hh
  cases hi : ops[j]? with
  | none => rw [hi] at hh; exact hh.elim
  | some o =>
    rw [hi] at hh
    have hm : o ∈ ops.toList := by have := Array.mem_of_getElem? hi; simpa using this
    have ho : operOk n o = true := List.all_eq_true.1 hall o hm
    simp only at hh
    cases hg : o.guard with
    | some g => rw [hg] at hh; exact hh.elim
    | none =>
      rw [hg] at hh
      unfold wpOp
      simp only [hi]
      rw [if_pos (by simp [Region.wanted, hg])]
      refine .inl (run_sound (E := E) (K := fun v h' => St h' ∧ ih (Hv.put f o.dst v) h') ?_ ha ?_)
      · rw [hf.eval, ← operOk.xop ho f]; exact hh
      · rintro v h' w' ha' ⟨hst, hk⟩
        exact ⟨⟨h', ha'⟩, fun _ => ⟨h', ha', hst⟩, fun _ _ => ⟨h', ha', hst⟩, At E h', fun hc => (by rw [hsyn] at hc; cases hc), ha', hih hk (hf.put (operOk.dst ho) _) ha'⟩
theorem htree_sound {P : Program} {ops : Array Oper} {n : Nat} {E : Env} {all : List (Nat × Nat)} {St : Heap → Prop} {Q : F → Heap → Prop} (hall : opsOk n ops = true) (hs : Region.noSelect ops = true) :
    ∀ (t : PT) (listed : Array Bool), planOkT ops all t listed = true → ∀ {f h a w}, htree P ops Q St t f h → Fits n f a → At E h w →
      wpY P .any ops (fun e a w => e = .normal ∧ lift E n (fun _ f h => Q f h) .normal a w) (fun w => ∃ h, At E h w) (fun w => ∃ h, At E h w ∧ St h) (isSynM all) (isWeak all) t.len (At E h) listed a w := by
  intro t
  induction t with
  | done =>
    intro listed hok f h a w hh hf ha
    have hr : Region.ready .any ops listed = [] := by simpa [planOkT] using hok
    exact ⟨hr, rfl, f, h, hf, ha, hh⟩
  | op i t k ih =>
    intro listed hok f h a w hh hf ha
    simp only [planOkT, Bool.and_eq_true] at hok
    exact hmstep_sound hall hs hok.1 (fun hk hf ha => ih _ hok.2 hk hf ha) hh hf ha
  | two i j x y ihx ihy =>
    intro listed hok f h a w hh hf ha
    simp only [planOkT, Bool.and_eq_true, beq_iff_eq] at hok
    obtain ⟨⟨⟨⟨⟨s1, s2⟩, hr⟩, hl⟩, k1⟩, k2⟩ := hok
    replace hh : hmstep P ops St i 4 (htree P ops Q St x) f h ∧ hmstep P ops St j 4 (htree P ops Q St y) f h := hh
    refine ⟨fun h0 => (by rw [hr] at h0; cases h0), ?_⟩
    rw [hr]
    intro k hk
    simp only [List.mem_cons, List.not_mem_nil, or_false] at hk
    rcases hk with rfl | rfl
    · exact hweak_sound hall s1 (fun hk hf ha => ihx _ k1 hk hf ha) hh.1 hf ha
    · refine hweak_sound hall s2 (fun hk hf ha => ?_) hh.2 hf ha
      show wpY P .any ops _ _ _ _ _ x.len _ _ _ _
      rw [hl]
      exact ihy _ k2 hk hf ha

theorem wp_loop_rank {P : Program} {Q : Exit → Act → World → Prop} {c : Code} (I : Nat → Act → World → Prop) {a : Act} {w : World} {k0 : Nat} (h₀ : I k0 a w)
    (round : ∀ n a w, I n a w → c.wp P (Exit.then (fun a' w' => ∃ n', n' < n ∧ I n' a' w') Q) a w) : (Code.loop c).wp P Q a w := by
  intro b k cs
  have key : ∀ n a w, I n a w →
      ∃ e a' w', Q e a' w' ∧ Arrives P (lone (b.at a (.code c :: .inLoop c :: k)) cs w) b k cs e a' w' := by
    intro n
    induction n using Nat.strongRecOn with
    | _ n ih =>
      intro a w hI
      obtain ⟨e, a₁, w₁, hq, harr⟩ := round n a w hI b (.inLoop c :: k) cs
      cases e with
      | normal =>
        obtain ⟨n', hlt, hI₁⟩ := hq
        obtain ⟨e₂, a₂, w₂, hq₂, harr₂⟩ := ih n' hlt a₁ w₁ hI₁
        exact ⟨e₂, a₂, w₂, hq₂, .of_steps (Steps.trans harr (.one step_inLoop)) harr₂⟩
      | exit id => exact ⟨_, a₁, w₁, hq, .pass (x := .inLoop c) rfl (fun _ _ => .inl (by simp)) harr⟩
      | goto l => exact ⟨_, a₁, w₁, hq, .pass (x := .inLoop c) rfl (fun _ _ => .inl (by simp)) harr⟩
      | ret => exact ⟨_, a₁, w₁, hq, .pass (x := .inLoop c) rfl (fun _ _ => .inl (by simp)) harr⟩
      | panic ch => exact ⟨_, a₁, w₁, hq, .pass (x := .inLoop c) rfl (fun _ _ => .inl (by simp)) harr⟩
      | outgrown => exact ⟨_, a₁, w₁, hq, .pass (x := .inLoop c) rfl (fun _ _ => .inl (by simp)) harr⟩
  obtain ⟨e, a', w', hq, harr⟩ := key _ a w h₀
  exact ⟨e, a', w', hq, .of_steps (.one step_loop) harr⟩

theorem hcode_sound {P : Program} {md : Nat → RM} {n : Nat} {E : Env} (hm : P.follows .mixedOrders = true) (c : Code) : codeOk n md c = true →
    ∀ {Q f h a w}, hcode P md c Q f h → Fits n f a → At E h w → c.wp P (lift E n Q) a w := by
  induction c with
  | skip => intro _ Q f h a w hh hf ha; exact wp_skip ⟨f, h, hf, ha, hh⟩
  | region id ops draw =>
    intro hok Q f h a w hh hf ha
    simp only [codeOk, Bool.and_eq_true] at hok
    obtain ⟨hops, hmode⟩ := hok
    replace hh : hreg P md id ops draw Q f h := hh
    cases draw with
    | false =>
      exact wp_region_list (hops_sound hops _ hops hh hf ha)
    | true =>
      simp only [hreg] at hh
      simp only at hmode
      split at hh
      · rename_i hq
        rw [hq] at hmode
        refine wp_region_quiet (C := At E h) hm hmode ⟨ha.heap, ha.tape, ha.os, ha.output⟩ ?_
        refine wpQuiet_mono ?_ _ _ (hquiet_sound hops _ hops hh hf)
        rintro a' ⟨f', hf', hq'⟩ w' ha'
        exact ⟨f', h, hf', ha', hq'⟩
      · rename_i k hq
        rw [hq] at hmode
        have hmode' : Region.lexTailB .any ops.toList.toArray k = true := by simpa using hmode
        have ha1 : At E h { w with drawn := w.drawn + 1 } := ⟨ha.heap, ha.tape, ha.os, ha.output⟩
        have key := wp_region_still_tail (P := P) (id := id) (Q := lift E n Q) (a := a) (w := w) (l := ops.toList) k hm hmode' (by
          refine wpStill_mono ?_ _ _ (by simpa using hstill_sound (E := E) hops ha1 _ (all_take hops k) hh hf)
          rintro a' ⟨f', hf', hq'⟩
          have := hops_sound (E := E) hops _ (all_drop hops k) hq' hf' ha1
          simpa using this)
        simpa using key
      · rename_i plan hq
        rw [hq] at hmode
        simp only [Bool.and_eq_true, decide_eq_true_eq] at hmode
        obtain ⟨St, hh⟩ := hh
        have ha1 : At E h { w with drawn := w.drawn + 1 } := ⟨ha.heap, ha.tape, ha.os, ha.output⟩
        have key := hheld_sound (E := E) hops hmode.1.1 plan _ hmode.2 hh hf ha1
        rw [hmode.1.2] at key
        refine Code.wp_mono ?_ (wp_region_held hm key)
        rintro e a' w' ⟨rfl, f', h', h1, h2, h3⟩
        exact ⟨f', h', h1, h2, h3⟩
      · rename_i plan hq
        rw [hq] at hmode
        simp only [Bool.and_eq_true, decide_eq_true_eq] at hmode
        have ha1 : At E h { w with drawn := w.drawn + 1 } := ⟨ha.heap, ha.tape, ha.os, ha.output⟩
        have key := hsync_sound (E := E) hops hmode.1.1 plan _ hmode.2 hh hf ha1
        rw [hmode.1.2] at key
        refine Code.wp_mono ?_ (wp_region_any hm (wpAny_of_X _ _ _ _ _ key))
        rintro e a' w' ⟨rfl, f', h', h1, h2, h3⟩
        exact ⟨f', h', h1, h2, h3⟩
      · rename_i plan hq
        rw [hq] at hmode
        simp only [Bool.and_eq_true, decide_eq_true_eq] at hmode
        obtain ⟨St, hh⟩ := hh
        have ha1 : At E h { w with drawn := w.drawn + 1 } := ⟨ha.heap, ha.tape, ha.os, ha.output⟩
        have key := hmix_sound (E := E) hops hmode.1.1 plan _ hmode.2 hh hf ha1
        rw [hmode.1.2] at key
        refine Code.wp_mono ?_ (wp_region_any hm (wpAny_of_Y _ _ _ _ _ key))
        rintro e a' w' ⟨rfl, f', h', h1, h2, h3⟩
        exact ⟨f', h', h1, h2, h3⟩
      · rename_i t hq
        rw [hq] at hmode
        simp only [Bool.and_eq_true, decide_eq_true_eq] at hmode
        obtain ⟨St, hh⟩ := hh
        have ha1 : At E h { w with drawn := w.drawn + 1 } := ⟨ha.heap, ha.tape, ha.os, ha.output⟩
        have key := htree_sound (E := E) hops hmode.1.1 t _ hmode.2 hh hf ha1
        rw [hmode.1.2] at key
        refine Code.wp_mono ?_ (wp_region_any hm (wpAny_of_Y _ _ _ _ _ key))
        rintro e a' w' ⟨rfl, f', h', h1, h2, h3⟩
        exact ⟨f', h', h1, h2, h3⟩
  | seq x y ihx ihy =>
    intro hok Q f h a w hh hf ha
    simp only [codeOk, Bool.and_eq_true] at hok
    refine wp_seq (Code.wp_mono ?_ (ihx hok.1 hh hf ha))
    rintro e a' w' ⟨f', h', hf', ha', hq⟩
    cases e <;> first
      | exact ihy hok.2 hq hf' ha'
      | exact ⟨f', h', hf', ha', hq⟩
  | cond c x y ihx ihy =>
    intro hok Q f h a w hh hf ha
    simp only [codeOk, Bool.and_eq_true] at hok
    obtain ⟨t, ht, hb⟩ := hh
    refine wp_cond (t := t) (by rw [hf.eval]; exact ht) ?_
    cases t with
    | true => exact ihx hok.1 hb hf ha
    | false => exact ihy hok.2 (by rw [if_neg Bool.false_ne_true] at hb; exact hb) hf ha
  | block id c ih =>
    intro hok Q f h a w hh hf ha
    refine wp_block (Code.wp_mono ?_ (ih hok hh hf ha))
    rintro e a' w' ⟨f', h', hf', ha', hq⟩
    cases e with
    | exit id' =>
      simp only [Exit.inBlock]
      simp only [inB] at hq
      split
      · rename_i he; rw [if_pos he] at hq; exact ⟨f', h', hf', ha', hq⟩
      · rename_i he; rw [if_neg he] at hq; exact ⟨f', h', hf', ha', hq⟩
    | _ => exact ⟨f', h', hf', ha', hq⟩
  | loop c ih =>
    intro hok Q f h a w hh hf ha
    obtain ⟨I, ⟨k0, h0⟩, hround⟩ := hh
    refine wp_loop_rank (fun k a w => ∃ f h, Fits n f a ∧ At E h w ∧ I k f h) (k0 := k0) ⟨f, h, hf, ha, h0⟩ ?_
    rintro k a' w' ⟨f', h', hf', ha', hI⟩
    refine Code.wp_mono ?_ (ih hok (hround k f' h' hI) hf' ha')
    rintro e a'' w'' ⟨f'', h'', hf'', ha'', hq⟩
    cases e with
    | normal => obtain ⟨k', hlt, hI'⟩ := hq; exact ⟨k', hlt, f'', h'', hf'', ha'', hI'⟩
    | _ => exact ⟨f'', h'', hf'', ha'', hq⟩
  | rangeFunc g ps x y ihx ihy => intro _ Q f h a w hh; exact hh.elim
  | exit id => intro _ Q f h a w hh hf ha; exact wp_exit ⟨f, h, hf, ha, hh⟩
  | scope c ih => intro _ Q f h a w hh; exact hh.elim
  | label l => intro _ Q f h a w hh hf ha; exact wp_label ⟨f, h, hf, ha, hh⟩
  | goto l => intro _ Q f h a w hh hf ha; exact wp_goto ⟨f, h, hf, ha, hh⟩
  | ret => intro _ Q f h a w hh hf ha; exact wp_ret ⟨f, h, hf, ha, hh⟩
  | refuse why => intro _ Q f h a w hh; exact hh.elim

/-! a function -/
def frame0 (args : Array Value) : F := fun i => args.getD i undef
/-- its results -/
def resOf (f : F) (h : Heap) : List ResultVar → Option (List Value)
  | [] => some []
  | .tmp t :: l => (resOf f h l).map (f t :: ·)
  | .cell a _ :: l => match f a with
    | .pointer (some p) => (cell h p).bind fun v => (resOf f h l).map (v :: ·)
    | _ => none
def pack : List Value → Value
  | [v] => v
  | l => .tuple l.toArray
/-- each result in a cell is of one cell -/
def resOk (P : Program) : List ResultVar → Bool
  | [] => true
  | .tmp _ :: l => resOk P l
  | .cell _ t :: l => (match P.underlying t with | some (.struct _) | some (.array ..) | none => false | _ => true) && resOk P l
def fin (R : Value → Heap → Prop) (f : F) (h : Heap) (rs : List ResultVar) : Prop := ∃ l, resOf f h rs = some l ∧ R (pack l) h
def post (rs : List ResultVar) (R : Value → Heap → Prop) : Exit → F → Heap → Prop
  | .normal, f, h => fin R f h rs
  | .ret, f, h => fin R f h rs
  | _, _, _ => False

theorem isAgg_rd {P : Program} {t : TypeId} {d : TypeDesc} (h : P.underlying t = some d) (hd : (match d with | .struct _ | .array .. => false | _ => true) = true) (hp : Heap) : rd P (isAgg t) hp = some false := by
  have hu : rd P (underlying t) hp = some d := by
    show rd P (match P.underlying t with | some d => pure d | none => stuck "no such type") hp = some d
    rw [h]; rfl
  show rd P (Sem.bind (underlying t) _) hp = _
  rw [rd_bind, hu]
  cases d <;> first | rfl | simp at hd

theorem mapM_rd {P : Program} {hp : Heap} {a : Act} {n : Nat} {f : F} (hf : Fits n f a) : ∀ (rs : List ResultVar), resOk P rs = true → ∀ l, resOf f hp rs = some l →
    rd P (rs.mapM fun | .tmp t => pure (a.tmps.getD t undef) | .cell b t => do loadVar t (← asAddr (a.tmps.getD b undef))) hp = some l := by
  intro rs
  induction rs with
  | nil => intro _ l hl; simp only [resOf, Option.some.injEq] at hl; subst hl; rfl
  | cons r rs ih =>
    intro hok l hl
    rw [List.mapM_cons]
    cases r with
    | tmp t =>
      simp only [resOf, Option.map_eq_some_iff] at hl
      obtain ⟨l', hl', rfl⟩ := hl
      show rd P (Sem.bind (Sem.pure _) _) hp = _
      rw [rd_bind]
      simp only [rd, Option.bind_some]
      show rd P (Sem.bind (List.mapM _ rs) _) hp = _
      rw [rd_bind, ih (by simpa [resOk] using hok) l' hl', hf.get]
      rfl
    | cell b t =>
      simp only [resOk, Bool.and_eq_true] at hok
      simp only [resOf] at hl
      have hb := hf.get b
      cases hfb : f b with
      | pointer p =>
        cases p with
        | none => rw [hfb] at hl; simp at hl
        | some p =>
          rw [hfb] at hl hb
          simp only [Option.bind_eq_some_iff, Option.map_eq_some_iff] at hl
          obtain ⟨v, hv, l', hl', rfl⟩ := hl
          have hl1 : rd P (loadVar t p) hp = some v := by
            cases hu : P.underlying t with
            | none => rw [hu] at hok; simp at hok
            | some d =>
              have hag := isAgg_rd hu (by rw [hu] at hok; cases d <;> first | rfl | simp at hok) hp
              show rd P (Sem.bind (isAgg t) _) hp = _
              rw [rd_bind, hag]
              show (cell hp p).bind _ = _
              rw [hv]; rfl
          show rd P (Sem.bind (Sem.bind (asAddr (a.tmps.getD b undef)) (fun x => loadVar t x)) _) hp = _
          rw [rd_bind, rd_bind, hb]
          show ((some p).bind fun x => rd P (loadVar t x) hp).bind _ = _
          simp only [Option.bind_some]
          rw [hl1]
          simp only [Option.bind_some]
          show rd P (Sem.bind (List.mapM _ rs) _) hp = _
          rw [rd_bind, ih hok.2 l' hl']
          rfl
      | _ => rw [hfb] at hl; simp at hl

theorem results_rd {P : Program} {fn : Func} {hp : Heap} {a : Act} {n : Nat} {f : F} (hf : Fits n f a) (hok : resOk P fn.results.toList = true) {l : List Value} (hl : resOf f hp fn.results.toList = some l) : rd P (results fn a.tmps) hp = some (pack l) := by
  unfold results
  rw [← Array.toArray_toList (xs := fn.results), List.mapM_toArray]
  show rd P (Sem.bind (Functor.map List.toArray (List.mapM _ fn.results.toList)) _) hp = _
  rw [rd_bind]
  have h1 := mapM_rd hf fn.results.toList hok l hl
  have h2 : rd P (Functor.map List.toArray (List.mapM (fun | .tmp t => pure (a.tmps.getD t undef) | .cell b t => do loadVar t (← asAddr (a.tmps.getD b undef))) fn.results.toList) : Sem (Array Value)) hp = some l.toArray := by
    show rd P (Sem.bind (List.mapM _ fn.results.toList) _) hp = _
    rw [rd_bind, h1]; rfl
  refine Eq.trans (congrArg (fun o => Option.bind o fun a => rd P (pure (if h : a.size = 1 then a[0] else Value.tuple a)) hp) h2) ?_
  simp only [Option.bind_some]
  match l with
  | [] => rfl
  | [v] => rfl
  | v :: u :: l' => rfl

/-- a function's contract out of its body's -/
theorem hcalls_of {P : Program} {g : FuncId} {fn : Func} {c : Code} {args : Array Value} {h : Heap} {R : Value → Heap → Prop} (md : Nat → RM) (hm : P.follows .mixedOrders = true)
    (hf : P.funcs[g]? = some fn) (hb : fn.body = some c) (hn : args.size ≤ fn.ntmps) (hok : codeOk fn.ntmps md c = true) (hr : resOk P fn.results.toList = true)
    (hh : hcode P md c (post fn.results.toList R) (frame0 args) h) : HCalls P g args h R := by
  intro E w ha
  refine calls_of_wp hf hb ?_
  refine Code.wp_mono ?_ (hcode_sound (E := E) (n := fn.ntmps) hm c hok hh ⟨?_, ?_, rfl⟩ ha)
  · rintro e a w' ⟨f, h', hf', ha', hq⟩
    have hfin : ∀ rs, fn.results.toList = rs → fin R f h' rs → a.defers = [] ∧ ∃ v, (results fn a.tmps).run P w' = .ok v w' ∧ ∃ v' h', Ending.returned v = .returned v' ∧ At E h' w' ∧ R v' h' := by
      rintro rs rfl ⟨l, hl, hR⟩
      obtain ⟨rfl, h2, h3, h4⟩ := ha'
      exact ⟨hf'.defers, _, run_of_rd' (results_rd hf' hr hl), _, _, rfl, ⟨rfl, h2, h3, h4⟩, hR⟩
    cases e with
    | normal => exact hfin _ rfl hq
    | ret => exact hfin _ rfl hq
    | _ => exact hq.elim
  · simp; omega
  · intro i
    simp only [frame0]
    by_cases hi : i < args.size
    · simp [Array.getD, hi]; intro h; omega
    · simp only [Array.getD, hi, dite_false]
      split
      · rename_i hlt
        simp [Array.getElem_append, hi]
      · rfl

/-- the same, of a body that was printed -/
theorem hcalls_gen {P : Program} {g : FuncId} {fn : Func} {args : Array Value} {h : Heap} {R : Value → Heap → Prop} {md : Nat → RM} {top : (Exit → F → Heap → Prop) → F → Heap → Prop} {rs : List ResultVar} (hm : P.follows .mixedOrders = true)
    (hf : P.funcs[g]? = some fn) (hc : top = hcode P md (fn.body.getD .skip)) (hb : fn.body.isSome = true) (hn : Nat.ble args.size fn.ntmps = true) (hok : codeOk fn.ntmps md (fn.body.getD .skip) = true) (hrs : fn.results.toList = rs) (hr : resOk P rs = true)
    (hh : top (post rs R) (frame0 args) h) : HCalls P g args h R := by
  subst hc; subst hrs
  exact hcalls_of md hm hf (by cases hbb : fn.body with | none => rw [hbb] at hb; simp at hb | some c => rfl) (Nat.le_of_ble_eq_true hn) hok hr hh
end Go.Hv
