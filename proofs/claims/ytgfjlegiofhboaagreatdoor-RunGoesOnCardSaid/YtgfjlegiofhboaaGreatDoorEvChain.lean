/- Runs of the evaluator, cut into pieces. No condition. -/
import Derived.Test.YtgfjlegiofhboaaGreatDoorEvFast
namespace Go.Ev
open Go.RowKit
set_option linter.unusedVariables false
set_option linter.unusedSimpArgs false
set_option autoImplicit false

noncomputable section
/-- A key by its number. -/
def kn (n : Nat) : Key :=
  @Nat.rec (fun _ => Nat → Key) (fun _ => .one) (fun _ ih n => @Bool.casesOn (fun _ => Key) (Nat.ble n 1)
    (@Bool.casesOn (fun _ => Key) (Nat.beq (Nat.mod n 2) 0) (.i (ih (Nat.div n 2))) (.o (ih (Nat.div n 2)))) .one) 30 n

def subC (c : Code) (p : List Nat) : Code :=
  @List.rec Nat (fun _ => Code → Code) (fun c => c) (fun d _ ih c => match c with
    | .seq a b => ih (match d with | 0 => a | _ => b)
    | .cond _ a b => ih (match d with | 0 => a | _ => b)
    | .block _ a => ih a
    | .loop a => ih a
    | .scope a => ih a
    | .rangeFunc _ _ a b => ih (match d with | 0 => a | _ => b)
    | c => ih c) p c
def cdf (P : Program) (f : Nat) (p : List Nat) : Code :=
  match P.funcs[f]? with
  | some fn => match fn.body with
    | some c => subC c p
    | none => .skip
  | none => .skip
def rg (c : Code) : Array Oper :=
  match c with
  | .region _ ops _ => ops
  | _ => #[]
def mkT (l : List (Nat × AV)) : Tr AV := l.foldl (fun t x => t.put (Key.ofNat x.1) (some x.2)) .leaf
def mkH (l : List (Nat × AObj)) (nx : Nat) : Heap := ⟨l.foldl (fun t x => t.put (kn x.1) (some x.2)) .leaf, kn nx⟩

def vI (n : Int) : AV := .lit (.int .i64 n)
def vU (n : Int) : AV := .lit (.int .u8 n)
def vB (b : Bool) : AV := .lit (.bool b)
def vT : AV := .lit (.bool true)
def vF : AV := .lit (.bool false)
def vS : AV := .lit (.slice none 0 0)
def vP : AV := .lit (.pointer none)
def vE : AV := .lit .nilIface
def vN : AV := .lit .nilFunc
def vM : AV := .lit (.map none)
def pt (b off : Nat) : AV := .ptr (kn b) off
def sl (b off len cap esz : Nat) : AV := .slc (kn b) off len (some cap) esz
def su (b off len esz : Nat) : AV := .slc (kn b) off len none esz
def mp (b : Nat) : AV := .map (kn b)
def yl (b : Nat) : AV := .yld (kn b)
def fu (f : Nat) (a c : List AV) : AV := .fn (.func f) a c
def cel (l : List AV) : AObj := .cells l false
def celR (l : List AV) : AObj := .cells l true

/-- The blocks that go on. -/
def keepT (t : Tr AObj) (ks : List Nat) : Tr AObj := ks.foldl (fun u k => u.put (kn k) (t.get (kn k))) .leaf
def keep (ks : List Nat) (s : AM) : AM := ⟨s.fr, s.cs, ⟨keepT s.h.t ks, s.h.nx⟩⟩

def drawless (l : List AItem) : Bool :=
  match l with
  | .draw _ _ _ _ :: _ => false
  | _ => true
def noDraw (s : AM) : Bool := drawless s.fr.todo && s.cs.all fun a => drawless a.todo

def pieceOf (P : Program) (n : Nat) (ks : List Nat) (s : AM) : Option AM :=
  match arunF P n s with
  | some t => some (keep ks t)
  | none => none
end

theorem keepT_get (t : Tr AObj) : ∀ (ks : List Nat) (u : Tr AObj), (∀ b o, u.get b = some o → t.get b = some o) → ∀ b o, (ks.foldl (fun u k => u.put (kn k) (t.get (kn k))) u).get b = some o → t.get b = some o
  | [], u, hu, b, o, h => hu b o h
  | k :: ks, u, hu, b, o, h => by
    refine keepT_get t ks (u.put (kn k) (t.get (kn k))) (fun b o h => ?_) b o h
    by_cases e : b = kn k
    · subst e; rw [Tr.get_put_same] at h; exact h
    · rw [Tr.get_put_ne _ _ _ _ e] at h; exact hu b o h

section
variable {P : Program} {B : Nat} {w0 : World} {cs0 : List Frame}

theorem HR.keep {ρ : Rho} {h : Heap} {w : World} (hr : HR B w0 ρ h w) (ks : List Nat) : HR B w0 ρ ⟨keepT h.t ks, h.nx⟩ w := by
  have hg : ∀ b o, Heap.get ⟨keepT h.t ks, h.nx⟩ b = some o → h.get b = some o := fun b o hb => keepT_get h.t ks .leaf (fun b o h => by rw [Tr.get_leaf] at h; cases h) b o hb
  have hn : ∀ b, Heap.get ⟨keepT h.t ks, h.nx⟩ b ≠ none → h.get b ≠ none := by
    intro b hb
    cases hx : Heap.get ⟨keepT h.t ks, h.nx⟩ b with
    | none => exact absurd hx hb
    | some o => rw [hg b o hx]; simp
  refine ⟨fun b o c z hb hρ => hr.obj b o c z (hg b o hb) hρ, fun b b' c z z' h1 h2 h3 h4 => hr.inj b b' c z z' h1 h2 (hn b h3) (hn b' h4), hr.bnd, fun b hb => ?_, hr.below, hr.room⟩
  obtain ⟨h1, h2⟩ := hr.fresh b hb
  refine ⟨h1, ?_⟩
  cases hx : Heap.get ⟨keepT h.t ks, h.nx⟩ b with
  | none => rfl
  | some o => rw [hg b o hx] at h2; cases h2

theorem drawless_ne {l : List AItem} (h : drawless l = true) (ops : Array Oper) (plan seen : List Nat) (T0 : Tr AV) (k : List AItem) : l ≠ .draw ops plan seen T0 :: k := by
  intro e; subst e; cases h

theorem StackR.keep {ρ : Rho} {h h' : Heap} {m : Nat} {as : List AFr} {cs : List Frame} (hs : StackR P ρ h cs0 m as cs) (hd : ∀ a ∈ as, drawless a.todo = true) : StackR P ρ h' cs0 m as cs := by
  induction hs with
  | nil => exact .nil
  | cons a b c d _ ih =>
    refine .cons a b c ?_ (ih fun x hx => hd x (List.mem_cons_of_mem _ hx))
    rcases d with d | ⟨ops, L, rest, seen, T0, k, σ, k', nm, e, _⟩
    · exact .inl d
    · exact absurd e (drawless_ne (hd _ List.mem_cons_self) _ _ _ _ _)

theorem MR.keep {s : AM} {c : Frame} {cs : List Frame} {w : World} (hm : MR P B w0 cs0 s c cs w) (hd : noDraw s = true) (ks : List Nat) : MR P B w0 cs0 (keep ks s) c cs w := by
  obtain ⟨ρ, lo, hr, hg, hlo, hfb, hab, hst⟩ := hm
  unfold noDraw at hd
  simp only [Bool.and_eq_true, List.all_eq_true] at hd
  exact ⟨ρ, lo, hr.keep ks, hg, hlo, hfb, .inl (hab.plain fun _ _ _ _ _ e => drawless_ne hd.1 _ _ _ _ _ e), hst.keep hd.2⟩

/-- What the evaluator comes to, piece by piece. -/
inductive Reach (P : Program) : AM → AM → Prop
  | refl {s : AM} : Reach P s s
  | step {s s1 s2 : AM} {n : Nat} {ks : List Nat} : Reach P s s1 → pieceOf P n ks s1 = some s2 → noDraw s2 = true → Reach P s s2
  | last {s s1 s2 : AM} {n : Nat} : Reach P s s1 → arunF P n s1 = some s2 → Reach P s s2

theorem Reach.run (hfol : P.follows .mixedOrders = true) {s s' : AM} (h : Reach P s s') {c : Frame} {cs : List Frame} {w : World} (hm : MR P B w0 cs0 s c cs w) : SimTo P B w0 cs0 s' c cs w := by
  induction h with
  | refl => exact ⟨c, cs, w, .refl _ _, hm⟩
  | step _ hp hd ih =>
    obtain ⟨c1, cs1, w1, h1, h2⟩ := ih
    unfold pieceOf at hp
    split at hp
    · rename_i t ht
      cases hp
      rw [arunF_eq] at ht
      obtain ⟨c2, cs2, w2, h3, h4⟩ := arun_run hfol _ h2 ht
      exact ⟨c2, cs2, w2, h1.trans h3, h4.keep hd _⟩
    · cases hp
  | last _ hp ih =>
    obtain ⟨c1, cs1, w1, h1, h2⟩ := ih
    rw [arunF_eq] at hp
    obtain ⟨c2, cs2, w2, h3, h4⟩ := arun_run hfol _ h2 hp
    exact ⟨c2, cs2, w2, h1.trans h3, h4⟩

/-- A call that the evaluator has gone through, piece by piece. -/
theorem calls_of_reach {f : FuncId} {args : List AV} {args' : Array Value} {h : Heap} {ρ : Rho} {w : World} {B : Nat} {a : AFr} {e : AM} {v : AV}
    (hfol : P.follows .mixedOrders = true) (hr : HR B w ρ h w) (hg : GR P ρ) (ha : VsR ρ args args'.toList) (hst : enterFr P f args = some a) (hrun : Reach P { fr := a, cs := [], h := h } e)
    (hcs : e.cs = []) (hret : e.fr.ret = true) (hdef : e.fr.defers = []) (hfn : e.fr.fn = f) (hv : ∃ fn, P.funcs[f]? = some fn ∧ resultsA P fn e.fr.T e.h = some v) :
    Calls P f args' w fun r w' => ∃ ρ' u, r = .returned u ∧ VR ρ' v u ∧ HR B w ρ' e.h w' := by
  intro cs
  obtain ⟨f1, f2⟩ := enterFr_run (P := P) (h := h) (lo := h.nx.toNat) hst ha
  obtain ⟨fr', cs', w', hs, ρ', lo', hr', hg', hlo', hfb, hab, hst'⟩ := hrun.run (cs0 := cs) hfol ⟨ρ, h.nx.toNat, hr, hg, Nat.le_refl _, f1, f2, .nil⟩
  obtain ⟨fn, hf, hres⟩ := hv
  have hcs' : cs' = cs := by
    rw [hcs] at hst'
    cases hst'; rfl
  subst hcs'
  have hpl : TR ρ' e.fr.n e.fr.T fr'.tmps := by
    rcases hab with ⟨_, h2⟩ | ⟨h1, _⟩
    · exact h2
    · rw [hret] at h1; cases h1
  obtain ⟨u, hu1, hu2⟩ := resultsA_run (P := P) hres hr' hpl
  have hmode := hfb.mode
  rw [hret, if_pos rfl] at hmode
  have hd : fr'.defers = [] := by
    have h1 := hfb.defers
    rw [hdef] at h1
    generalize fr'.defers = d at h1 ⊢
    cases h1; rfl
  refine ⟨.returned u, w', fr', ⟨ρ', u, rfl, hu2, hr'⟩, hs, by rw [hfb.fn, hfn], hmode, hd, hfb.kind, fn, ?_, hu1⟩
  rw [hfb.fn, hfn]; exact hf

/-- The last piece: the call returns true. -/
noncomputable def endsTrue (P : Program) (f : FuncId) (n : Nat) (s : AM) : Bool :=
  match arunF P n s with
  | some e => (match e.cs with | [] => true | _ => false) && e.fr.ret && (match e.fr.defers with | [] => true | _ => false) && Nat.beq e.fr.fn f &&
    (match P.funcs[f]? with
      | some fn => (match resultsA P fn e.fr.T e.h with
        | some (.lit (.bool b)) => b
        | _ => false)
      | none => false)
  | none => false

theorem calls_of_chain {f : FuncId} {h : Heap} {ρ : Rho} {w : World} {B n : Nat} {a : AFr} {s : AM} (hfol : P.follows .mixedOrders = true) (hr : HR B w ρ h w) (hg : GR P ρ)
    (hst : enterFr P f [] = some a) (hrun : Reach P { fr := a, cs := [], h := h } s) (hend : endsTrue P f n s = true) :
    Calls P f #[] w fun e w' => e = .returned (.bool true) ∧ Below B w w' := by
  unfold endsTrue at hend
  split at hend
  · rename_i e he
    simp only [Bool.and_eq_true] at hend
    obtain ⟨⟨⟨⟨h1, h2⟩, h3⟩, h4⟩, h5⟩ := hend
    have hcs : e.cs = [] := by
      split at h1
      · assumption
      · cases h1
    have hdf : e.fr.defers = [] := by
      split at h3
      · assumption
      · cases h3
    split at h5
    · rename_i fn hf
      split at h5
      · rename_i b hb
        subst h5
        refine (calls_of_reach (args := []) (args' := #[]) hfol hr hg .nil hst (.last hrun he) hcs h2 hdf (Nat.eq_of_beq_eq_true h4) ⟨fn, hf, hb⟩).mono ?_
        rintro r w' ⟨ρ', u, rfl, hu, hr'⟩
        exact ⟨by rw [hu.lit_eq], hr'.below⟩
      · cases h5
    · cases h5
  · cases hend
end
end Go.Ev
