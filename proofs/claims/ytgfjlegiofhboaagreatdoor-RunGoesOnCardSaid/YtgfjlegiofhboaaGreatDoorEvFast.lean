/- The evaluator once more, in a form that the kernel evaluates faster: each choice is between closed functions. It is the same. No condition. -/
import Derived.Test.YtgfjlegiofhboaaGreatDoorEvSim3
namespace Go.Ev
set_option linter.unusedVariables false
set_option linter.unusedSimpArgs false
set_option autoImplicit false

noncomputable section

abbrev OpF := Program → (Operand → AV) → TypeId → Heap → Option R

def fNone : OpF := fun _ _ _ _ => none
def fMove (x : Operand) : OpF := fun _ ρ _ h => some (.val (ρ x) h)
def fPick (c a b : Operand) : OpF := fun _ ρ _ h => match ρ c with
  | .lit (.bool t) => some (.val (if t then ρ a else ρ b) h)
  | _ => none
def fAlloc (t : TypeId) : OpF := fun P _ _ h => match zeroP P t with
  | some z => some (.val (.ptr h.nx 0) (h.new (.cells (z.cells.toList.map AV.lit) false)))
  | none => none
def fBox (x : Operand) : OpF := fun _ ρ _ h => some (.val (.ptr h.nx 0) (h.new (.cells (ρ x).cells false)))
def fBuild (t : TypeId) (ps : Array (Nat × Operand)) : OpF := fun P ρ _ h => pv h (buildA P t (ps.toList.map fun p => (p.1, ρ p.2)))
def fBuildSlice (t : TypeId) (n : Nat) (ps : Array (Nat × Operand)) : OpF := fun P ρ _ h => pvh (buildSliceA P t n (ps.toList.map fun p => (p.1, ρ p.2)) h)
def fLoad (t : TypeId) (a : Operand) : OpF := fun P ρ _ h => match ρ a with
  | .ptr b off => pv h (loadA P t b off h)
  | _ => none
def fStore (t : TypeId) (a x : Operand) : OpF := fun P ρ _ h => match ρ a with
  | .ptr b off => ph (storeA P t b off (ρ x) h)
  | _ => none
def fNilCheck (x : Operand) : OpF := fun _ ρ _ h => match ρ x with
  | .ptr b off => some (.val (.ptr b off) h)
  | .fn (.func f) a b => some (.val (.fn (.func f) a b) h)
  | .yld b => some (.val (.yld b) h)
  | _ => none
def fBin (op : BinOp) (t : TypeId) (x y : Operand) : OpF := fun P ρ _ h => pv h (binA P op t (isCst x || isCst y) (ρ x) (ρ y))
def fUn (op : UnOp) (x : Operand) : OpF := fun _ ρ _ h => pv h (unA op (ρ x))
def fConv (s d : TypeId) (x : Operand) : OpF := fun P ρ _ h => pv h (convA P s d (ρ x))
def fIface (t : TypeId) (x : Operand) : OpF := fun P ρ _ h => if isIface P t || (P.underlying t).isNone then none else some (.val (.ifc t (ρ x)) h)
def fFunc (fn : Fn) (a b : Array Operand) : OpF := fun _ ρ _ h => some (.val (.fn fn (a.toList.map ρ) (b.toList.map ρ)) h)
def fMap (r : Option Operand) : OpF := match r with
  | none => fun _ _ _ h => some (.val (.map h.nx) (h.new (.map [])))
  | some _ => fNone
def fMakeSlice (t : TypeId) (l c : Operand) : OpF := fun P ρ _ h => pvh (makeSliceA P t (ρ l) (ρ c) h)
def fSlice (t : TypeId) (x : Operand) (lo hi mx : Option Operand) : OpF := fun P ρ _ h => pv h (sliceA P t (ρ x) (lo.map ρ) (hi.map ρ) (mx.map ρ) h)
def fFieldAddr (s : TypeId) (x : Operand) (f : Nat) : OpF := fun P ρ _ h => pv h (fieldAddrA P s (ρ x) f)
def fField (s : TypeId) (x : Operand) (f : Nat) : OpF := fun P ρ _ h => pv h (fieldA P s (ρ x) f)
def fIndexAddr (t : TypeId) (x i : Operand) : OpF := fun P ρ _ h => pv h (indexAddrA P t (ρ x) (ρ i))
def fIndex (t : TypeId) (x i : Operand) : OpF := fun P ρ _ h => pv h (indexA P t (ρ x) (ρ i))
def fLookup (t : TypeId) (x i : Operand) (ok : Bool) : OpF := fun P ρ _ h => pv h (lookupA P t (ρ x) (ρ i) ok h)
def fMapUpdate (t : TypeId) (m k x : Operand) : OpF := fun P ρ _ h => ph (mapUpdateA P t (ρ m) (ρ k) (ρ x) h)
def fAssert (x : Operand) (t : TypeId) (ok : Bool) : OpF := fun P ρ _ h => pv h (typeAssertA P (ρ x) t ok)
def fExtract (x : Operand) (i : Nat) : OpF := fun _ ρ _ h => match ρ x with
  | .tup l => pv h (nthL l i)
  | _ => none
def fCall (c : Call) : OpF := fun P ρ _ h => match c.callee with
  | .value f => callA P (ρ f) (c.args.toList.map ρ)
  | .builtin b => builtinA P b c.argTypes (c.args.toList.map ρ) h
  | .invoke _ _ => none

def opF (op : Op) : OpF :=
  @Op.casesOn (fun _ => OpF) op
    (fun x => fMove x) (fun x => fMove x) (fun c a b => fPick c a b) (fun t => fAlloc t) (fun _ x => fBox x) (fun t ps => fBuild t ps) (fun t n ps => fBuildSlice t n ps)
    (fun _ _ _ _ => fNone) (fun t a => fLoad t a) (fun t a x => fStore t a x) (fun _ => fNone) (fun _ => fNone) (fun x => fNilCheck x) (fun op t x y _ => fBin op t x y) (fun op _ x => fUn op x)
    (fun s d x => fConv s d x) (fun _ _ => fNone) (fun t x => fIface t x) (fun fn a b => fFunc fn a b) (fun _ r => fMap r) (fun _ _ => fNone) (fun t l c => fMakeSlice t l c)
    (fun t x lo hi mx => fSlice t x lo hi mx) (fun s x f => fFieldAddr s x f) (fun s x f => fField s x f) (fun t x i => fIndexAddr t x i) (fun t x i => fIndex t x i) (fun t x i ok => fLookup t x i ok)
    (fun t m k x => fMapUpdate t m k x) (fun _ _ _ => fNone) (fun _ _ _ _ => fNone) (fun _ _ => fNone) (fun _ _ => fNone) (fun _ => fNone) (fun x _ t ok => fAssert x t ok) (fun x i => fExtract x i)
    (fun c => fCall c) (fun _ => fNone) (fun _ => fNone) (fun _ => fNone) (fun _ _ => fNone) (fun _ _ _ => fNone) (fun _ _ => fNone)

theorem opF_eq (P : Program) (ρ : Operand → AV) (o : Oper) (h : Heap) : opF o.op P ρ o.type h = evalOp P ρ o h := by
  unfold evalOp
  cases hop : o.op <;> first | rfl | skip
  case makeMap t r => cases r <;> rfl

abbrev FrF := List AItem → FuncId → Nat → Tr AV → List Key → Bool → Option Key → AV → Heap → Program → Option AFr

def finF (it : AItem) : FrF :=
  @AItem.casesOn (fun _ => FrF) it (fun _ => fun _ _ _ _ _ _ _ _ _ _ => none) (fun _ => fun _ _ _ _ _ _ _ _ _ _ => none) (fun _ => fun _ _ _ _ _ _ _ _ _ _ => none) (fun _ => fun _ _ _ _ _ _ _ _ _ _ => none)
    (fun ops l => @List.casesOn Nat (fun _ => FrF) l (fun _ _ _ _ _ _ _ _ _ _ => none) fun i rest => fun k fn n T defers ret round v _ _ =>
      match putT n T ((ops[i]?).bind (·.dst)) v with
      | some T => some ⟨fn, n, T, .inReg ops rest :: k, defers, ret, round⟩
      | none => none)
    (fun ops plan seen T0 => @List.casesOn Nat (fun _ => FrF) plan (fun _ _ _ _ _ _ _ _ _ _ => none) fun i plan => fun k fn n T defers ret round v h P =>
      match putT n T ((ops[i]?).bind (·.dst)) v with
      | some T => if stable P ops i T h seen then some ⟨fn, n, T, .draw ops plan seen T0 :: k, defers, ret, round⟩ else none
      | none => none)
    (fun b => fun k fn n T defers ret round _ _ _ => some ⟨fn, n, T, .endRF b :: k, defers, ret, round⟩)
    (fun _ => fun _ _ _ _ _ _ _ _ _ _ => none) (fun _ _ _ _ _ _ _ _ _ _ => none)

def finishF (P : Program) (fr : AFr) (v : AV) (h : Heap) : Option AFr :=
  @AFr.casesOn (fun _ => AV → Heap → Program → Option AFr) fr (fun fn n T todo defers ret round =>
    @List.casesOn AItem (fun _ => FuncId → Nat → Tr AV → List Key → Bool → Option Key → AV → Heap → Program → Option AFr) todo (fun _ _ _ _ _ _ _ _ _ => none) (fun it k => finF it k) fn n T defers ret round) v h P

theorem finishF_eq (P : Program) (fr : AFr) (v : AV) (h : Heap) : finishF P fr v h = finish P fr v h := by
  obtain ⟨fn, n, T, todo, defers, ret, round⟩ := fr
  unfold finish
  cases todo with
  | nil => rfl
  | cons it k =>
    cases it with
    | inReg ops l => cases l <;> rfl
    | draw ops plan seen T0 => cases plan <;> rfl
    | _ => rfl

def applyF (P : Program) (fr : AFr) (cs : List AFr) (h : Heap) (r : Option R) : Option AM :=
  match r with
  | some (.val v h') => match finishF P fr v h' with
    | some fr => some { fr, cs, h := h' }
    | none => none
  | some (.enter f args) => match enterFr P f args with
    | some g => some { fr := g, cs := fr :: cs, h }
    | none => none
  | some (.round b args) => match roundFr b args h with
    | some g => some { fr := g, cs := fr :: cs, h }
    | none => none
  | none => none
theorem applyF_eq (P : Program) (fr : AFr) (cs : List AFr) (h : Heap) (r : Option R) : applyF P fr cs h r = applyA P fr cs h r := by
  unfold applyF applyA
  cases r with
  | none => rfl
  | some r =>
    cases r with
    | val v h' => simp only [finishF_eq]; rfl
    | enter f args => rfl
    | round b args => rfl

/-- What a step is given: the rest of what there is to do, the frame's parts, the callers, memory. -/
abbrev StF := List AItem → FuncId → Nat → Tr AV → List Key → Option Key → List AFr → Heap → Program → Option AM

def sTo (f : List AItem → List AItem) : StF := fun k fn n T defers round cs h _ => some ⟨⟨fn, n, T, f k, defers, false, round⟩, cs, h⟩
def sLeave (it : AItem) (j : Option Code) : StF := fun k fn n T defers round cs h P => leaveA P ⟨fn, n, T, it :: k, defers, false, round⟩ cs h j

def codeF (c : Code) : StF :=
  @Code.casesOn (fun _ => StF) c
    (sTo fun k => k)
    (fun id ops d => @Bool.casesOn (fun _ => StF) d (sTo fun k => .inReg ops (List.range ops.size) :: k) (fun k fn n T defers round cs h _ => match planOf ops with
      | some plan => some ⟨⟨fn, n, T, .draw ops plan [] T :: k, defers, false, round⟩, cs, h⟩
      | none => none))
    (fun a b => sTo fun k => .code a :: .code b :: k)
    (fun c a b => fun k fn n T defers round cs h P => match ev P T c with
      | .lit (.bool t) => some ⟨⟨fn, n, T, .code (if t then a else b) :: k, defers, false, round⟩, cs, h⟩
      | _ => none)
    (fun id c => sTo fun k => .code c :: .inBlock id :: k)
    (fun c => sTo fun k => .code c :: .inLoop c :: k)
    (fun f params assign body => fun k fn n T defers round cs h P => match enterLoopA ⟨fn, n, T, .code (.rangeFunc f params assign body) :: k, defers, false, round⟩ params.toList assign body h with
      | some (l, mark, h') => match callA P (ev P T f) [.yld l] with
        | some (.enter g args) => applyF P ⟨fn, n, T, .inRF l :: k, mark ++ defers, false, round⟩ cs h' (some (.enter g args))
        | _ => none
      | none => none)
    (fun id => fun k fn n T defers round cs h P => match exitToA id k with
      | some k' => some ⟨⟨fn, n, T, k', defers, false, round⟩, cs, h⟩
      | none => sLeave (.code (.exit id)) (some (.exit id)) k fn n T defers round cs h P)
    (fun c => sTo fun k => .code c :: .inScope c :: k)
    (fun _ => sTo fun k => k)
    (fun l => fun k fn n T defers round cs h P => match gotoInA l k with
      | some k' => some ⟨⟨fn, n, T, k', defers, false, round⟩, cs, h⟩
      | none => sLeave (.code (.goto l)) (some (.goto l)) k fn n T defers round cs h P)
    (sLeave (.code .ret) (some .ret))
    (fun _ => fun _ _ _ _ _ _ _ _ _ => none)

def regF (ops : Array Oper) (l : List Nat) : StF :=
  @List.casesOn Nat (fun _ => StF) l (sTo fun k => k) fun i rest => fun k fn n T defers round cs h P => match ops[i]? with
    | some o => if wantedA ops o (ev P T) then applyF P ⟨fn, n, T, .inReg ops (i :: rest) :: k, defers, false, round⟩ cs h (opF o.op P (ev P T) o.type h)
      else match finishF P ⟨fn, n, T, .inReg ops (i :: rest) :: k, defers, false, round⟩ undefA h with
        | some fr => some { fr, cs, h }
        | none => none
    | none => none

def drawF (ops : Array Oper) (plan seen : List Nat) (T0 : Tr AV) : StF :=
  @List.casesOn Nat (fun _ => StF) plan (sTo fun k => k) fun i plan => fun k fn n T defers round cs h P => match ops[i]? with
    | some o =>
      if wantedA ops o (ev P T) then
        if Nat.beq (rank o.op) 2 then applyF P ⟨fn, n, T, .draw ops (i :: plan) seen T0 :: k, defers, false, round⟩ cs h (opF o.op P (ev P T) o.type h)
        else match opF o.op P (ev P T) o.type h with
          | some (.val v h') => match putT n T o.dst v with
            | some T => some ⟨⟨fn, n, T, .draw ops plan (if Nat.beq (rank o.op) 1 && !makes o.op then i :: seen else seen) T0 :: k, defers, false, round⟩, cs, h'⟩
            | none => none
          | _ => none
      else match putT n T o.dst undefA with
        | some T => some ⟨⟨fn, n, T, .draw ops plan seen T0 :: k, defers, false, round⟩, cs, h⟩
        | none => none
    | none => none

def endRF (b : Key) : StF := fun k fn n T defers round cs h _ => match h.get b with
  | some (.loop st pending fn' n' T' params assign body d) => match st with
    | .busy => none
    | _ => some ⟨⟨fn, n, T, jumpItems pending k, defers, false, round⟩, cs, h.set b (.loop .exhausted pending fn' n' T' params assign body d)⟩
  | _ => none

def beginF : StF := fun k fn n T defers round cs h _ => match round with
  | some b => match h.get b with
    | some (.loop .ready pending fn' n' T' params assign body d) => some ⟨⟨fn, n, T, k, defers, false, some b⟩, cs, h.set b (.loop .busy pending fn' n' T' params assign body d)⟩
    | _ => none
  | none => none

def itemF (it : AItem) : StF :=
  @AItem.casesOn (fun _ => StF) it (fun c => codeF c) (fun _ => sTo fun k => k) (fun c => sTo fun k => .code c :: .inLoop c :: k) (fun _ => sTo fun k => k)
    (fun ops l => regF ops l) (fun ops plan seen T0 => drawF ops plan seen T0) (fun _ => fun _ _ _ _ _ _ _ _ _ => none) (fun b => endRF b) beginF

/-- The step of a frame that has come to its end. -/
def retF : List AItem → FuncId → Nat → Tr AV → List Key → Option Key → List AFr → Heap → Program → Option AM := fun todo fn n T defers round cs h P =>
  match defers with
  | b :: ds => match h.get b with
    | some (.defs true) => some ⟨⟨fn, n, T, todo, ds, true, round⟩, cs, h.set b (.defs false)⟩
    | _ => none
  | [] => match cs with
    | c :: cs => match P.funcs[fn]? with
      | some f => match resultsA P f T h with
        | some v => match finishF P c v h with
          | some c => some { fr := c, cs, h }
          | none => none
        | none => none
      | none => none
    | [] => none

def runF : List AItem → FuncId → Nat → Tr AV → List Key → Option Key → List AFr → Heap → Program → Option AM := fun todo fn n T defers round cs h P =>
  @List.casesOn AItem (fun _ => FuncId → Nat → Tr AV → List Key → Option Key → List AFr → Heap → Program → Option AM) todo
    (fun fn n T defers round cs h P => leaveA P ⟨fn, n, T, [], defers, false, round⟩ cs h none) (fun it k => itemF it k) fn n T defers round cs h P

def astepF (P : Program) (s : AM) : Option AM :=
  @AM.casesOn (fun _ => Program → Option AM) s (fun fr cs h =>
    @AFr.casesOn (fun _ => List AFr → Heap → Program → Option AM) fr (fun fn n T todo defers ret round =>
      (@Bool.casesOn (fun _ => List AItem → FuncId → Nat → Tr AV → List Key → Option Key → List AFr → Heap → Program → Option AM) ret runF retF) todo fn n T defers round) cs h) P

theorem codeF_eq (P : Program) (c : Code) (k : List AItem) (fn : FuncId) (n : Nat) (T : Tr AV) (defers : List Key) (round : Option Key) (cs : List AFr) (h : Heap) :
    codeF c k fn n T defers round cs h P = astep P ⟨⟨fn, n, T, .code c :: k, defers, false, round⟩, cs, h⟩ := by
  unfold astep
  cases c with
  | region id ops d => cases d <;> rfl
  | rangeFunc f params assign body =>
    show (match enterLoopA _ params.toList assign body h with | some (l, mark, h') => _ | none => none) = _
    simp only [applyF_eq]
    rfl
  | _ => rfl

theorem astepF_eq (P : Program) (s : AM) : astepF P s = astep P s := by
  obtain ⟨⟨fn, n, T, todo, defers, ret, round⟩, cs, h⟩ := s
  cases ret with
  | true =>
    show retF todo fn n T defers round cs h P = _
    unfold retF astep
    simp only [finishF_eq]
    rfl
  | false =>
    cases todo with
    | nil => rfl
    | cons it k =>
      cases it with
      | code c => exact codeF_eq P c k fn n T defers round cs h
      | inReg ops l =>
        cases l with
        | nil => rfl
        | cons i rest =>
          show (match ops[i]? with | some o => _ | none => none) = _
          simp only [applyF_eq, opF_eq, finishF_eq]
          rfl
      | draw ops plan seen T0 =>
        cases plan with
        | nil => rfl
        | cons i plan =>
          show (match ops[i]? with | some o => _ | none => none) = _
          simp only [applyF_eq, opF_eq, finishF_eq]
          rfl
      | beginRound => cases round <;> rfl
      | _ => rfl

def arunF (P : Program) (n : Nat) (s : AM) : Option AM :=
  @Nat.rec (fun _ => AM → Option AM) (fun s => some s) (fun _ ih s => @Option.casesOn AM (fun _ => Option AM) (astepF P s) none ih) n s

theorem arunF_eq (P : Program) : ∀ (n : Nat) (s : AM), arunF P n s = arun P n s
  | 0, s => rfl
  | n + 1, s => by
    show @Option.casesOn AM (fun _ => Option AM) (astepF P s) none (arunF P n) = @Option.casesOn AM (fun _ => Option AM) (astep P s) none (arun P n)
    rw [astepF_eq]
    cases astep P s with
    | none => rfl
    | some s1 => exact arunF_eq P n s1
end
end Go.Ev
