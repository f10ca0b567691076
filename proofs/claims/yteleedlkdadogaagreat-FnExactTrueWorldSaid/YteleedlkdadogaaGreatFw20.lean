/- A function, from its parameters to its results. -/
import Derived.Test.YteleedlkdadogaaGreatFw19
namespace Go.Proofs.YteleedlkdadogaaGreat.Fw
open Go.RowKit

def argSV (i : Nat) (p : Sh) : SV := if p.isSt then .agg (rdCells .st p (.v i)) else .cv (leafOf .st p (.v i))

def argSlots : Nat → List Sh → List (Nat × SV)
  | _, [] => []
  | i, p :: ps => (i, argSV i p) :: argSlots (i + 1) ps

def St.start (ps : List Sh) : St := ⟨⟨argSlots 0 ps, []⟩, [], ps.length, 1⟩

/-- A result's value, out of its slot or its cells. -/
def resVar (T : Nat → Option TI) (ch : Nat → Option Ch) (sl : Nat → SV) : ResultVar → Option SV
  | .tmp t => some (sl t)
  | .cell t ty => (match T ty, sl t with
    | some ti, .cv (.ptr c 0) => (match ch c with
      | some (.box cells _) => wrapCells ti cells
      | _ => none)
    | _, _ => none)

def endAll (T : Nat → Option TI) (ch : Nat → Option Ch) (sl : Nat → SV) : Nat → List Sh → List ResultVar → Option (List E × List (Nat × (Nat × Nat)))
  | _, [], [] => some ([], [])
  | k, r :: rs, t :: ts => (match resVar T ch sl t with
    | none => none
    | some s => (match endOne ch k r s, endAll T ch sl (k + 1) rs ts with
      | some (y, m), some (ys, m') => some (y :: ys, m ++ m')
      | _, _ => none))
  | _, _, _ => none

section
variable {x : Fx} {Γ : G} {ρ : List V} {a : Act} {w : World} {g : Gh} {sl : Nat → SV} {ch : Nat → Option Ch} {lab : Nat → Nat → List Nat} {L' : Nat → List Nat}

def varVal (tmps : Array Value) : ResultVar → Sem Value
  | .tmp t => pure (tmps.getD t undef)
  | .cell a t => do loadVar t (← asAddr (tmps.getD a undef))

theorem resVar_ok {T : Nat → Option TI} (hT : TabOk x.P T) (hv : Vw x Γ ρ a w g sl ch) {r : ResultVar} {s : SV} (h : resVar T ch sl r = some s) :
    ∃ v, (varVal a.tmps r).run x.P w = .ok v w ∧ s.ok (CV.ok x w g ρ) v := by
  cases r with
  | tmp t =>
    simp only [resVar, Option.some.injEq] at h
    subst h
    exact ⟨_, rfl, hv.sl t⟩
  | cell t ty =>
    simp only [resVar] at h
    split at h
    · rename_i ti c hti hs
      split at h
      · rename_i cells ty' hc
        have hti := hT _ _ hti
        obtain ⟨b, hio, hval⟩ : (CV.ptr c 0).ok x w g ρ (a.tmps.getD t undef) := by have := hv.sl t; rw [hs] at this; exact this
        have hck := hv.rel.chunks c
        rw [hv.ch _ _ hc] at hck
        obtain ⟨b', vs, hio', hL, hh, hcs⟩ := hck
        rw [hio] at hio'
        cases hio'
        have hlen : cells.length = vs.length := by
          have hcl : ∀ (cs : List CV) (vals : List Value), cellsOk (CV.ok x w g ρ) cs vals → cs.length = vals.length := by
            intro cs
            induction cs with
            | nil => intro vals h; cases vals with
              | nil => rfl
              | cons _ _ => exact h.elim
            | cons c cs ih => intro vals h; cases vals with
              | nil => exact h.elim
              | cons _ _ => simp [ih _ h.2]
          exact hcl _ _ hcs
        obtain ⟨val, hrun, hok, _⟩ := run_loadVar_cells (P := x.P) hti (b := b) (k := 0) (by rw [← hlen]; exact wrapCells_len h) (fun j d hj => by
          rw [cell_of_row w b _ _ ty' (0, 0) hh]; simpa using hj) hcs h
        refine ⟨val, ?_, hok⟩
        simp only [varVal, hval, Sem.run_bind]
        have : (asAddr (.pointer (some ⟨b, 0, none⟩))).run x.P w = .ok ⟨b, 0, none⟩ w := by simp [asAddr]
        rw [this]
        exact hrun
      · cases h
    · cases h

/-- The results' values, one by one. -/
def valsOk (P : Program) (w : World) (tmps : Array Value) : List ResultVar → List Value → Prop
  | [], [] => True
  | r :: rs, v :: vs => (varVal tmps r).run P w = .ok v w ∧ valsOk P w tmps rs vs
  | _, _ => False

theorem endAll_ok {T : Nat → Option TI} (hT : TabOk x.P T) (hv : Vw x Γ ρ a w g sl ch) : ∀ {rs : List Sh} {ts : List ResultVar} {k : Nat} {ys : List E} {m : List (Nat × (Nat × Nat))}, endAll T ch sl k rs ts = some (ys, m) →
    (∀ d k j, (d, (k, j)) ∈ m → ∀ b q, g.L b = q ++ [d] → L' b = q ++ lab k j) → ∃ vs vals, denL ρ ys = some vs ∧ valsOk x.P w a.tmps ts vals ∧ ressOk w L' lab k rs vs vals
  | [], [], k, ys, m, h, _ => by
    simp only [endAll, Option.some.injEq, Prod.mk.injEq] at h
    obtain ⟨rfl, rfl⟩ := h
    exact ⟨[], [], rfl, trivial, trivial⟩
  | r :: rs, t :: ts, k, ys, m, h, hL => by
    simp only [endAll] at h
    split at h
    · cases h
    · rename_i s hs
      obtain ⟨val, hrun, hok⟩ := resVar_ok hT hv hs
      split at h
      · rename_i y m1 ys' m2 h1 h2
        cases h
        obtain ⟨v, hy, ho⟩ := endOne_ok hv hok h1 (fun d k j hm => hL d k j (List.mem_append_left _ hm))
        obtain ⟨vs, vals, hvs, hva, hr⟩ := endAll_ok hT hv h2 (fun d k j hm => hL d k j (List.mem_append_right _ hm))
        exact ⟨v :: vs, val :: vals, by simp [denL, hy, hvs], ⟨hrun, hva⟩, ho, hr⟩
      · cases h
  | [], _ :: _, _, _, _, h, _ => by cases h
  | _ :: _, [], _, _, _, h, _ => by cases h

end

theorem run_results {P : Program} {fn : Func} {tmps : Array Value} {w : World} {vals : List Value} (h : valsOk P w tmps fn.results.toList vals) :
    (results fn tmps).run P w = .ok (retVal vals) w := by
  have hm : ∀ {l : List ResultVar} {vals : List Value}, valsOk P w tmps l vals → (List.mapM (varVal tmps) l).run P w = .ok vals w := by
    intro l
    induction l with
    | nil => intro vals h; cases vals with
      | nil => rfl
      | cons _ _ => exact h.elim
    | cons t ts ih => intro vals h; cases vals with
      | nil => exact h.elim
      | cons v vs =>
        rw [List.mapM_cons]
        simp only [Sem.run_bind, h.1, Sem.run_pure, Result.andThen_ok, ih h.2]
  have h0 : results fn tmps = (do
      let vs ← fn.results.mapM (varVal tmps)
      pure (if h : vs.size = 1 then vs[0] else .tuple vs)) := by
    unfold results
    congr 1
  have h' : fn.results = fn.results.toList.toArray := by simp
  rw [h0, h', List.mapM_toArray]
  have := hm h
  generalize List.mapM (m := Sem) _ _ = X at this ⊢
  have hx : (List.toArray <$> X).run P w = .ok vals.toArray w := by
    show (X >>= fun l => pure l.toArray).run P w = _
    simp only [Sem.run_bind, this, Result.andThen_ok, Sem.run_pure]
  simp only [Sem.run_bind, hx, Result.andThen_ok, Sem.run_pure]
  match vals with
  | [] => rfl
  | [t] => rfl
  | t :: u :: ts => rfl

def compF (B : Tabs) (fn : Func) (H : Nat → Option Tm) (ps rs : List Sh) : Option A :=
  match fn.body with
  | some c =>
    if Nat.ble ps.length fn.ntmps then
      comp B (0, fn.ntmps) H c 2 (fun e s =>
        let fin := (match endAll B.T (fun c => some (s.Γ.chunk c)) s.Γ.slot 0 rs fn.results.toList with
          | some (es, mv) => if nodupB (mv.map (·.1)) then some (A.out 1 es) else none
          | none => none)
        match e with | .normal => fin | .ret => fin | _ => none) (St.start ps)
    else none
  | _ => none

theorem argSlots_look {t : Nat} : ∀ {ps : List Sh} {i : Nat} {s : SV}, look (argSlots i ps) t = some s → ∃ j p, ps[j]? = some p ∧ t = i + j ∧ s = argSV t p
  | p :: ps, i, s, h => by
    simp only [argSlots, look] at h
    split at h
    · rename_i hb
      have := Nat.eq_of_beq_eq_true hb
      subst this
      cases h
      exact ⟨0, p, rfl, rfl, rfl⟩
    · obtain ⟨j, q, h1, h2, h3⟩ := argSlots_look h
      exact ⟨j + 1, q, by simpa using h1, by omega, h3⟩

theorem argsOk_get {w : World} : ∀ {ps : List Sh} {vs : List V} {as : List Value}, argsOk w ps vs as → vs.length = ps.length ∧ as.length = ps.length ∧ ∀ (j : Nat) (p : Sh), ps[j]? = some p → ∃ v a, vs[j]? = some v ∧ as[j]? = some a ∧ ArgOk w p v a
  | [], [], [], _ => ⟨rfl, rfl, fun j p h => by simp at h⟩
  | p :: ps, v :: vs, a :: as, h => by
    obtain ⟨h1, h2, h3⟩ := argsOk_get h.2
    refine ⟨by simp [h1], by simp [h2], fun j q hj => ?_⟩
    cases j with
    | zero => simp at hj; subst hj; exact ⟨v, a, rfl, rfl, h.1⟩
    | succ j => simpa using h3 j q (by simpa using hj)
  | [], _ :: _, _, h => by simp [argsOk] at h
  | [], [], _ :: _, h => by simp [argsOk] at h
  | _ :: _, [], _, h => by simp [argsOk] at h
  | _ :: _, _ :: _, [], h => by simp [argsOk] at h

theorem compF_sound {P : Program} {B : Tabs} (hT : TabOk P B.T) (hmix : P.follows .mixedOrders = true) {f : FuncId} {fn : Func} (hf : P.funcs[f]? = some fn) {H : Nat → Option Tm} {ps rs : List Sh} {A0 : A} (h : compF B fn H ps rs = some A0)
    {vs us : List V} (hw : A0.wp (CC P B.S) (fun m us' => m = 1 ∧ us' = us) vs) : SoundAt P f ps rs vs us := by
  intro w args lab hargs
  unfold compF at h
  split at h
  · rename_i c hb
    split at h
    · rename_i hle
      have hle' : ps.length ≤ fn.ntmps := Nat.le_of_ble_eq_true hle
      obtain ⟨hl1, hl2, hget⟩ := argsOk_get hargs
      refine calls_of_wp hf hb ?_
      let x : Fx := ⟨P, w, fun _ => [], (0, fn.ntmps), [], fun _ => undef, fun b => b < w.heap.size, fun b hb => ⟨hb, rfl⟩⟩
      let g : Gh := ⟨fun _ => [], fun _ => none, fun _ => 0⟩
      have hrel : Rel x (St.start ps).Γ vs { tmps := args.toArray ++ Array.replicate (fn.ntmps - args.toArray.size) undef, defers := [] } w g := by
        refine ⟨rfl, by simp [x]; omega, fun t => ?_, fun c => ⟨rfl, rfl⟩, fun b _ => ⟨rfl, rfl⟩, fun _ _ => rfl, Nat.le_refl _, Env.refl _, fun i hi => absurd hi (Nat.not_lt_zero i)⟩
        show ((look (argSlots 0 ps) t).getD (.cv .junk)).ok _ _
        cases hlk : look (argSlots 0 ps) t with
        | none => trivial
        | some s =>
          obtain ⟨j, p, h1, h2, rfl⟩ := argSlots_look hlk
          rw [Nat.zero_add] at h2
          subst h2
          obtain ⟨v, a, e1, e2, e3⟩ := hget _ p h1
          have hval : (args.toArray ++ Array.replicate (fn.ntmps - args.toArray.size) undef).getD t undef = a := by
            have hlt : t < args.length := (List.getElem?_eq_some_iff.1 e2).1
            rw [Array.getD_eq_getD_getElem?, Array.getElem?_append_left (by simpa using hlt)]
            simp [e2]
          show (argSV t p).ok _ ((args.toArray ++ Array.replicate (fn.ntmps - args.toArray.size) undef).getD t undef)
          rw [hval]
          have hS : ∀ b, b < w.heap.size → w.heap[b]? = w.heap[b]? ∧ Src.st.S x g b := fun b hb => ⟨rfl, .inl hb⟩
          unfold argSV
          unfold ArgOk at e3
          split at e3
          · rename_i hst
            rw [if_pos hst]
            obtain ⟨cs, rfl, hrd⟩ := e3
            exact ⟨cs, rfl, rdCells_ok (src := .st) trivial trivial (by simpa [E.den] using e1) (hrd.frame hS)⟩
          · rename_i hst
            rw [if_neg hst]
            exact leafOf_ok (src := .st) trivial trivial (by simpa [E.den] using e1) (e3.frame hS)
      refine comp_wp (x := x) hT hmix c h hw hrel (fun e b hm => by cases hm) (by simp [St.start, hl1]) ?_
      intro e R' δ s' A1 a' w' g' hR hκ hw1 hr1 hk1 hn1
      have hfin : (match endAll B.T (fun c => some (s'.Γ.chunk c)) s'.Γ.slot 0 rs fn.results.toList with
          | some (es, mv) => if nodupB (mv.map (·.1)) then some (A.out 1 es) else none
          | none => none) = some A1 → a'.defers = [] ∧ ∃ v, (results fn a'.tmps).run P w' = .ok v w' ∧ ∃ (L' : Nat → List Nat) (vals : List Value), Ending.returned v = .returned (retVal vals) ∧ Left w w' L' ∧ ressOk w' L' lab 0 rs us vals := by
        intro hκ
        split at hκ
        · rename_i es mv he
          split at hκ
          · rename_i hnd
            cases hκ
            obtain ⟨us', hus, hR1⟩ := hw1
            rw [hR 1 (by omega)] at hR1
            obtain ⟨_, rfl⟩ := hR1
            have hv : Vw x s'.Γ (vs ++ δ) a' w' g' s'.Γ.slot (fun c => some (s'.Γ.chunk c)) := ⟨hr1, hr1.slots, fun c h hc => by cases hc; rfl⟩
            obtain ⟨us2, vals, hus2, hvals, hres⟩ := endAll_ok (lab := lab) (L' := endL lab mv g'.L) (x := x) hT hv he (fun d k j hm b q hb => endL_hit hb (look_of_mem hnd hm))
            rw [hus] at hus2
            cases hus2
            refine ⟨hr1.defers, _, run_results hvals, endL lab mv g'.L, vals, rfl, ⟨hr1.env, hr1.low, fun b hb => ?_, fun b hb => by simp [endL, hr1.high b hb]⟩, hres⟩
            have := hr1.stable b ⟨hb, rfl⟩
            exact ⟨this.1, by simp [endL, this.2]⟩
          · cases hκ
        · cases hκ
      cases e with
      | normal => exact hfin hκ
      | ret => exact hfin hκ
      | _ => cases hκ
    · cases h
  · cases h

end Go.Proofs.YteleedlkdadogaaGreat.Fw
