/- Calls of functions that change what they are handed, 3: what was handed over, behind the call; the call. -/
import Derived.Test.YteleedlkdadogaaGreatFw32
namespace Go.Proofs.YteleedlkdadogaaGreat.Fw
open Go.RowKit

def labCV : CV → List Nat
  | .own c => [c]
  | _ => []

def cvAt (s : SV) (j : Nat) : CV :=
  match s with
  | .agg cs => cs.getD j .junk
  | .cv c => c
  | .tup _ => .junk

/-- How many new chunk numbers an argument takes behind the call. -/
def Pk.nw : Pk → Nat
  | .ptr s _ _ => s.sz
  | _ => 0

def sumNw : List Pk → Nat
  | [] => 0
  | p :: ps => p.nw + sumNw ps

def backsN : List Pk → Nat
  | [] => 0
  | p :: ps => (if p.isBack then 1 else 0) + backsN ps

def labP (id : Nat) (p : Pk) (s : SV) (j : Nat) : List Nat :=
  match p with
  | .own _ _ => labCV (cvAt s j)
  | .ptr _ _ _ => (match j with
    | 0 => (match s with | .cv (.ptr d _) => [d] | _ => [])
    | j + 1 => [id + j])
  | _ => []

def labA (sl : Nat → SV) : Nat → List Pk → List Operand → Nat → Nat → List Nat
  | id, p :: _, y :: _, 0, j => labP id p (opnd sl y) j
  | id, p :: ps, _ :: ys, i + 1, j => labA sl (id + p.nw) ps ys i j
  | _, _, _, _, _ => []

def backLeaf (ch : Nat → Option Ch) (y : E) : CV → List (Nat × Ch)
  | .own c => (match ch c with
    | some (.arr ver e et _) => [(c, .arr (ver + 1) e et y)]
    | _ => [])
  | _ => []

def backCells (ch : Nat → Option Ch) (y : E) : Nat → List CV → List (Nat × Ch)
  | _, [] => []
  | j, c :: cs => backLeaf ch (.pj y j) c ++ backCells ch y (j + 1) cs

def backP (ch : Nat → Option Ch) (id b : Nat) (p : Pk) (s : SV) : List (Nat × Ch) :=
  match p with
  | .own sh true => if sh.isSt then (match s with | .agg cs => backCells ch (.v b) 0 cs | _ => []) else (match s with | .cv c => backLeaf ch (.v b) c | _ => [])
  | .ptr sh ty kp => (match s with
    | .cv (.ptr d 0) => (match ch d with
      | some (.box cells _) => (d, .box (resCellsK kp id (.v b) (fun j => cells.getD j .junk) 0 sh) ty) :: resChsK kp id (.v b) 0 sh
      | _ => [])
    | _ => [])
  | _ => []

def updW (ch : Nat → Option Ch) (sl : Nat → SV) : Nat → Nat → List Pk → List Operand → List (Nat × Ch)
  | id, b, p :: ps, y :: ys => backP ch id b p (opnd sl y) ++ updW ch sl (id + p.nw) (if p.isBack then b + 1 else b) ps ys
  | _, _, _, _ => []

/-- The new chunks of the arguments. -/
def newW : Nat → Nat → List Pk → List (Nat × Ch)
  | id, b, p :: ps => (match p with | .ptr sh _ kp => resChsK kp id (.v b) 0 sh | _ => []) ++ newW (id + p.nw) (if p.isBack then b + 1 else b) ps
  | _, _, [] => []

/-- The values of the new chunks of the arguments. -/
def argVals (w : World) : Nat → List Pk → List Value → Nat → Option Value
  | id, p :: ps, v :: vs, c => if id ≤ c ∧ c < id + p.nw then cellAt w v (c - id) else argVals w (id + p.nw) ps vs c
  | _, _, _, _ => none

def Rk.isRo : Rk → Bool
  | .ro _ => true
  | _ => false

def noneOf (ch : Nat → Option Ch) : List (Nat × Ch) → Bool
  | [] => true
  | (c, _) :: l => (match ch c with | some .fresh => true | _ => false) && noneOf ch l

def stepCallW (n id : Nat) (S : Nat → Option Sg) (sl : Nat → SV) (ch : Nat → Option Ch) (f : Nat) (args : List Operand) : Option Res :=
  match S f with
  | some (.w ps rs) => (match openW ch sl 1 ps args with
    | some (es, m) =>
      let M := m.map (·.1)
      let R := kdAllCh id n (rs.map Rk.kd)
      let id' := id + sumKd (rs.map Rk.kd)
      let U := updW ch sl id' (n + rs.length) ps args
      let upd := R ++ (U ++ m.map fun x => (x.1, Ch.dead))
      if nodupB M && (!(memK 0 (upd.map (·.1))) && (noneOf ch R && (noneOf ch (newW id' (n + rs.length) ps) && rdsOk M (rs.any Rk.isRo) sl ps args))) then
        some ⟨[.cl f es (rs.length + backsN ps)], upd, resSV (kdAll id n (rs.map Rk.kd))⟩ else none
    | none => none)
  | _ => none

theorem noneOf_spec {ch : Nat → Option Ch} : ∀ {l : List (Nat × Ch)}, noneOf ch l = true → ∀ c h, (c, h) ∈ l → ch c = some .fresh
  | (c0, h0) :: l, hl, c, h, hm => by
    simp only [noneOf, Bool.and_eq_true] at hl
    cases hm with
    | head => split at hl
              · assumption
              · simp at hl
    | tail _ hm => exact noneOf_spec hl.2 c h hm

theorem leaf_lt' : ∀ {r : Sh} {j : Nat} {s : Sh}, r.leaf j = some s → j < r.sz
  | .cons h t, 0, s, _ => by simp [Sh.sz]
  | .cons h t, j + 1, s, hl => by have := leaf_lt' (r := t) hl; simp only [Sh.sz]; omega
  | .int _, _, _, hl => by cases hl
  | .bool, _, _, hl => by cases hl
  | .str, _, _, hl => by cases hl
  | .sl _ _, _, _, hl => by cases hl
  | .nil, _, _, hl => by cases hl

section
variable {x : Fx} {Γ : G} {ρ : List V} {a : Act} {w : World} {g : Gh} {sl : Nat → SV} {ch : Nat → Option Ch} {o : Oper} {res : Res}

/-- What a call behind which the ghosts are g' keeps of its caller. -/
structure After (x : Fx) (w : World) (g : Gh) (w' : World) (g' : Gh) (L' : Nat → List Nat) (T : Nat → Prop) : Prop where
  own : ∀ c sh v cs, Own w' L' sh v cs [c] → Own w' g'.L sh v cs [c]
  lab : ∀ b c, L' b = [c] → g'.L b = [c]
  io : ∀ c v, g.io c = some v → g'.io c = some v
  gv : ∀ c, T c → g'.gv c = g.gv c + 1

theorem backLeaf_ok (hv : Vw x Γ ρ a w g sl ch) {w' : World} {g' : Gh} {L' : Nat → List Nat} {T : Nat → Prop} (A : After x w g w' g' L' T) {s : Sh} {c : CV} {d : Value} {y0 : E} {m0 : List Nat} (hc : c.ok x w g ρ d) (hcl : closeLeaf ch s c = some (y0, m0))
    {y : E} {u : V} (hy : y.den ρ = some u) (how : Own w' L' s u [d] (labCV c)) : ∀ c' h, (c', h) ∈ backLeaf ch y c → T c' → h.ok x w' g' ρ c' := by
  intro c' h hm hT
  unfold backLeaf at hm
  split at hm
  · rename_i c
    split at hm
    · rename_i ver e et y' hch
      simp only [List.mem_singleton, Prod.mk.injEq] at hm
      obtain ⟨rfl, rfl⟩ := hm
      cases s with
      | sl e1 et1 =>
        simp only [closeLeaf, hch] at hcl
        split at hcl
        · rename_i hb
          simp only [Bool.and_eq_true] at hb
          have e2 := Sh.beq_eq hb.1
          have e3 := Nat.eq_of_beq_eq_true hb.2
          subst e2; subst e3
          have hk := hv.chok hch
          obtain ⟨_, _, _, _, hgv, _⟩ := hk
          exact ⟨u, d, A.io _ _ hc.2, hy, by rw [A.gv _ hT, hgv], A.own _ _ _ _ how⟩
        · cases hcl
      | _ => simp [closeLeaf] at hcl
    · cases hm
  · cases hm

theorem backCells_ok (hv : Vw x Γ ρ a w g sl ch) {w' : World} {g' : Gh} {L' : Nat → List Nat} {T : Nat → Prop} (A : After x w g w' g' L' T) {y : E} {fs : List V} (hy : y.den ρ = some (.t fs)) {k : Nat} {r : Sh} (hfl : fs.length = r.sz) :
    ∀ {cs : List CV} {j : Nat} {ds : List Value}, cellsOk (CV.ok x w g ρ) cs ds → ∀ {ys : List E} {m : List (Nat × (Nat × Nat))}, endLeaves ch k r j cs = some (ys, m) →
      (∀ i s u d c, r.leaf (j + i) = some s → fs[j + i]? = some u → ds[i]? = some d → cs[i]? = some c → Own w' L' s u [d] (labCV c)) → ∀ c' h, (c', h) ∈ backCells ch y j cs → T c' → h.ok x w' g' ρ c'
  | [], j, ds, _, ys, m, _, _, c', h, hm, _ => by cases hm
  | c :: cs, j, [], hc, _, _, _, _, _, _, _, _ => hc.elim
  | c :: cs, j, d :: ds, hc, ys, m, hcl, how, c', h, hm, hT => by
    simp only [endLeaves] at hcl
    split at hcl
    · cases hcl
    · rename_i s hs
      split at hcl
      · rename_i y0 m0 ys' m' h1 h2
        simp only [backCells, List.mem_append] at hm
        rcases hm with hm | hm
        · have hlt : j < fs.length := by rw [hfl]; exact leaf_lt' hs
          have hu : fs[j]? = some fs[j] := List.getElem?_eq_getElem hlt
          exact backLeaf_ok hv A hc.1 h1 (u := fs[j]) (by simp [E.den, hy]) (how 0 s _ d c (by simpa using hs) (by simp) rfl rfl) c' h hm hT
        · exact backCells_ok hv A hy hfl hc.2 h2 (fun i s' u d' c0 e1 e2 e3 e4 => by
            rw [show j + 1 + i = j + (i + 1) by omega] at e1 e2
            exact how (i + 1) s' u d' c0 e1 e2 (by simpa using e3) (by simpa using e4)) c' h hm hT
      · cases hcl

theorem backP_ok (hv : Vw x Γ ρ a w g sl ch) {w' : World} {g' : Gh} {L' : Nat → List Nat} {T : Nat → Prop} (A : After x w g w' g' L' T) (F : ∀ c val, CV.ok x w g ρ c val → CV.ok x w' g' ρ c val)
    {p : Pk} {c id b : Nat} {s : SV} {val : Value} (hs : s.ok (CV.ok x w g ρ) val) {e : E} {m : List (Nat × (Nat × Nat))} (h : openP ch c p s = some (e, m)) {u : V} (hu : p.isBack = true) (hb : (E.v b).den ρ = some u)
    (hk : BackOk w w' L' (labP id p s) p val u) (hio : ∀ c h, (∃ s ty kp, p = .ptr s ty kp ∧ (c, h) ∈ resChsK kp id (.v b) 0 s) → g'.io c = cellAt w' val (c - id)) (hgv : ∀ c h, (∃ s ty kp, p = .ptr s ty kp ∧ (c, h) ∈ resChsK kp id (.v b) 0 s) → g'.gv c = 1) :
    ∀ c' h', (c', h') ∈ backP ch id b p s → T c' → h'.ok x w' g' ρ c' := by
  intro c' h' hm hT
  cases p with
  | rd sh => cases hu
  | fn f => cases hu
  | own sh bk =>
    cases bk with
    | false => cases hu
    | true =>
      simp only [backP] at hm
      simp only [openP, endOne] at h
      simp only [BackOk, ResOk] at hk
      by_cases hst : sh.isSt = true
      · rw [if_pos hst] at hm h hk
        split at h
        · rename_i cs
          split at h
          · rename_i hc
            simp only [Bool.and_eq_true] at hc
            split at h
            · rename_i ys m' hl
              cases h
              obtain ⟨fs, ds, rfl, rfl, hch, hfl, hcl, hleaf⟩ := hk
              obtain ⟨vs, hvs, hcs⟩ := hs
              have hvs' : vs = ds := by have := congrArg (fun v => match v with | Value.agg a => a.toList | _ => []) hvs; simp at this; exact this.symm
              subst hvs'
              refine backCells_ok hv A hb hfl hcs hl (fun i s' u d c0 e1 e2 e3 e4 => ?_) c' h' hm hT
              rw [Nat.zero_add] at e1 e2
              have := hleaf i s' u d e1 e2 e3
              have hcv : cvAt (.agg cs) i = c0 := by simp only [cvAt, List.getD_eq_getElem?_getD, e4, Option.getD_some]
              simp only [labP, hcv] at this
              exact this
            · cases h
          · cases h
        · cases h
      · rw [if_neg hst] at hm h hk
        split at h
        · rename_i c0
          split at h
          · rename_i y' m' hcl
            exact backLeaf_ok hv A hs hcl hb hk c' h' hm hT
          · cases h
        · cases h
  | ptr sh ty kp =>
    simp only [backP] at hm
    simp only [openP] at h
    split at h
    · rename_i d
      split at h
      · rename_i cells ty' hd
        simp only [hd] at hm
        split at h
        · rename_i hc
          simp only [Bool.and_eq_true] at hc
          have e1 := Nat.eq_of_beq_eq_true hc.1.1
          have e3 := Nat.eq_of_beq_eq_true hc.2
          subst e1
          obtain ⟨b0, hio0, hval⟩ := hs
          obtain ⟨b', vs, hio', hLb, hh, hcs⟩ := hv.chok hd
          rw [hio0] at hio'
          cases hio'
          obtain ⟨⟨b1, fs, cs, rfl, hval', hLb1, hh1, hch, hfl, hcl, hleaf⟩, hkept⟩ := hk
          rw [hval] at hval'
          cases hval'
          subst hval
          have hcell : ∀ j, cellAt w' (.pointer (some ⟨b0, 0, none⟩)) j = cs[j]? := by intro j; simp only [cellAt, hh1]; simp
          have hk2 := hkept b0 ty ty vs.toArray cs.toArray rfl hh hh1
          have := res_cellsK (x := x) (ρ := ρ) (g' := g') (w' := w') (L' := L') (kp := kp) (id := id) (y := .v b) (fs := fs) (cs := cs) (old := fun j => cells.getD j .junk) hb sh 0 cs hch rfl hcl (by simpa using hfl)
            (fun i d' e0 e4 => by
              rw [Nat.zero_add] at *
              have h1 := hk2 i e0
              simp only [List.getElem?_toArray] at h1
              rw [e4] at h1
              have hcells : ∀ (cs : List CV) (vs : List Value) (i : Nat) (d' : Value), cellsOk (CV.ok x w g ρ) cs vs → vs[i]? = some d' → (cs.getD i .junk).ok x w g ρ d' := by
                intro cs
                induction cs with
                | nil => intro vs i d' hc hi; cases vs with
                  | nil => simp at hi
                  | cons _ _ => exact hc.elim
                | cons c cs ih => intro vs i d' hc hi; cases vs with
                  | nil => exact hc.elim
                  | cons v vs => cases i with
                    | zero => simp at hi; subst hi; exact hc.1
                    | succ i => simpa using ih vs i d' hc.2 (by simpa using hi)
              exact F _ _ (hcells cells vs i d' hcs h1.symm))
            (fun i s' u d' e0 e1 e2 e4 => by
              rw [Nat.zero_add] at *
              exact hleaf i s' u d' e0 e1 e2 e4) A.own
            (fun i d' ⟨h, hm⟩ e4 => by
              rw [Nat.zero_add] at *
              rw [hio _ h ⟨sh, ty, kp, rfl, hm⟩, hcell, show id + i - id = i by omega]
              exact e4)
            (fun c ⟨h, hm⟩ => hgv c h ⟨sh, ty, kp, rfl, hm⟩)
          simp only [List.mem_cons, Prod.mk.injEq] at hm
          rcases hm with ⟨rfl, rfl⟩ | hm
          · exact ⟨b0, cs, A.io _ _ hio0, A.lab _ _ hLb1, hh1, this.1⟩
          · exact this.2 c' h' hm
        · cases h
      · cases h
    · cases h

theorem newW_ge : ∀ {ps : List Pk} {id b : Nat} {c : Nat} {h : Ch}, (c, h) ∈ newW id b ps → id ≤ c
  | p :: ps, id, b, c, h, hm => by
    simp only [newW, List.mem_append] at hm
    rcases hm with hm | hm
    · split at hm
      · have := resChsK_ge _ 0 hm; omega
      · cases hm
    · have := newW_ge hm; omega
  | [], _, _, _, _, hm => by cases hm

theorem updW_ok (hv : Vw x Γ ρ a w g sl ch) {w' : World} {g' : Gh} {L' : Nat → List Nat} {T : Nat → Prop} (A : After x w g w' g' L' T) (F : ∀ c val, CV.ok x w g ρ c val → CV.ok x w' g' ρ c val) {lab : Nat → Nat → List Nat} :
    ∀ {ps : List Pk} {ys : List Operand} {c id b k : Nat} {es : List E} {m : List (Nat × (Nat × Nat))} {us : List V}, openW ch sl c ps ys = some (es, m) → backsOk w w' L' lab k ps (ys.map a.eval) us → (∀ i j, lab (k + i) j = labA sl id ps ys i j) →
      (∀ j, j < us.length → ρ[b + j]? = us[j]?) → (∀ c h, (c, h) ∈ newW id b ps → g'.io c = argVals w' id ps (ys.map a.eval) c) → (∀ c h, (c, h) ∈ newW id b ps → g'.gv c = 1) →
      us.length = backsN ps ∧ ∀ c' h', (c', h') ∈ updW ch sl id b ps ys → T c' → h'.ok x w' g' ρ c'
  | [], [], c, id, b, k, es, m, us, _, hb, _, _, _, _ => by
    cases us with
    | nil => exact ⟨rfl, fun c' h' hm => by cases hm⟩
    | cons _ _ => exact hb.elim
  | p :: ps, y :: ys, c, id, b, k, es, m, us, h, hb, hlab, hρ, hio, hgv => by
    simp only [openW] at h
    split at h
    · rename_i e m1 es' m2 e1 e2
      cases h
      have hlab0 : lab k = labP id p (opnd sl y) := by funext j; exact hlab 0 j
      have hlab' : ∀ i j, lab (k + 1 + i) j = labA sl (id + p.nw) ps ys i j := fun i j => by rw [show k + 1 + i = k + (i + 1) by omega]; exact hlab (i + 1) j
      have hio1 : ∀ c h, (∃ s ty kp, p = .ptr s ty kp ∧ (c, h) ∈ resChsK kp id (.v b) 0 s) → g'.io c = cellAt w' (a.eval y) (c - id) := by
        rintro c h ⟨s, ty, kp, rfl, hm⟩
        have hge := resChsK_ge _ 0 hm
        rw [hio c h (by simp only [newW, List.mem_append]; left; exact hm)]
        simp only [argVals, List.map_cons]
        rw [if_pos ⟨by omega, by simp only [Pk.nw]; omega⟩]
      have hgv1 : ∀ c h, (∃ s ty kp, p = .ptr s ty kp ∧ (c, h) ∈ resChsK kp id (.v b) 0 s) → g'.gv c = 1 := by
        rintro c h ⟨s, ty, kp, rfl, hm⟩
        exact hgv c h (by simp only [newW, List.mem_append]; left; exact hm)
      have hio2 : ∀ c h, (c, h) ∈ newW (id + p.nw) (if p.isBack then b + 1 else b) ps → g'.io c = argVals w' (id + p.nw) ps (ys.map a.eval) c := by
        intro c h hm
        have hge := newW_ge hm
        rw [hio c h (by simp only [newW, List.mem_append]; right; exact hm)]
        simp only [argVals, List.map_cons]
        rw [if_neg (by omega)]
      have hgv2 : ∀ c h, (c, h) ∈ newW (id + p.nw) (if p.isBack then b + 1 else b) ps → g'.gv c = 1 := fun c h hm => hgv c h (by simp only [newW, List.mem_append]; right; exact hm)
      simp only [List.map_cons, backsOk] at hb
      by_cases hbk : p.isBack = true
      · rw [if_pos hbk] at hb hio2 hgv2
        cases us with
        | nil => exact hb.elim
        | cons u us =>
          simp only at hb
          have hden : (E.v b).den ρ = some u := by have := hρ 0 (by simp); simpa [E.den] using this
          rw [hlab0] at hb
          have h1 := backP_ok hv A F (hv.opnd y) e1 hbk hden hb.1 hio1 hgv1
          obtain ⟨h2, h3⟩ := updW_ok hv A F (id := id + p.nw) (b := b + 1) (lab := lab) e2 (hb.2) hlab' (fun j hj => by rw [show b + 1 + j = b + (j + 1) by omega]; have := hρ (j + 1) (by simp; omega); simpa using this) hio2 hgv2
          refine ⟨by simp only [List.length_cons, backsN, hbk, if_true, h2]; omega, fun c' h' hm hT => ?_⟩
          simp only [updW, hbk, if_true, List.mem_append] at hm
          rcases hm with hm | hm
          · exact h1 c' h' hm hT
          · exact h3 c' h' hm hT
      · rw [if_neg hbk] at hb hio2 hgv2
        obtain ⟨h2, h3⟩ := updW_ok hv A F (id := id + p.nw) (b := b) (lab := lab) e2 hb hlab' hρ hio2 hgv2
        refine ⟨by simp only [backsN, hbk, h2]; simp, fun c' h' hm hT => ?_⟩
        simp only [updW, hbk, if_false, List.mem_append, Bool.false_eq_true] at hm
        rcases hm with hm | hm
        · exfalso
          unfold backP at hm
          split at hm
          · exact hbk rfl
          · exact hbk rfl
          · cases hm
        · exact h3 c' h' hm hT
    · cases h
  | [], _ :: _, _, _, _, _, _, _, _, h, _, _, _, _, _ => by cases h
  | _ :: _, [], _, _, _, _, _, _, _, h, _, _, _, _, _ => by cases h

theorem Vw.st (hv : Vw x Γ ρ a w g sl ch) : ∀ b, x.S0 b → b < w.heap.size ∧ g.L b = [] := hv.rel.st

theorem good_callW {S : Nat → Option Sg} (hv : Vw x Γ ρ a w g sl ch) {n id f : Nat} {args : Array Operand} {ts : Array TypeId} (ho : o.op = .call { callee := .value (.func f), args := args, argTypes := ts })
    (hr : stepCallW n id S sl ch f args.toList = some res) (he : EmsOk (CC x.P S) ρ n res.ems) : Good x ρ a w g o res := by
  unfold stepCallW at hr
  split at hr
  · rename_i ps rs hS
    split at hr
    · rename_i es m hop
      simp only at hr
      split at hr
      · rename_i hcond
        simp only [Bool.and_eq_true, Bool.not_eq_true'] at hcond
        obtain ⟨hnd, hz, hf1, hf2, hrd⟩ := hcond
        cases hr
        obtain ⟨⟨vs, us, hd, ⟨hcall, hsound⟩, hlen, hρ⟩, _⟩ := he
        rw [hS] at hsound
        simp only at hsound
        -- the callee's labels
        generalize hR : kdAllCh id n (rs.map Rk.kd) = R at *
        generalize hid : id + sumKd (rs.map Rk.kd) = id' at *
        generalize hU : updW ch sl id' (n + rs.length) ps args.toList = U at *
        let upd := R ++ (U ++ m.map fun x => (x.1, Ch.dead))
        let T : Nat → Prop := keys upd
        let L0 : Nat → List Nat := endL (fun k j => [k + j]) m g.L
        have h00 : ∀ b, g.L b = [] → L0 b = [] := fun b hb => by simp [L0, endL, hb]
        have hkeyM : ∀ d kj, (d, kj) ∈ m → T d := fun d kj hm => by
          obtain ⟨v, hv⟩ := look_some (l := upd) (c := d) (List.mem_map.2 ⟨(d, .dead), List.mem_append_right _ (List.mem_append_right _ (List.mem_map.2 ⟨_, hm, rfl⟩)), rfl⟩)
          show (look upd d).isSome = true
          rw [hv]; rfl
        have hT0 : ¬ T 0 := by
          intro h
          obtain ⟨v, hl⟩ := Option.isSome_iff_exists.1 h
          have : memK 0 (upd.map (·.1)) = true := memK_iff.2 (List.mem_map.2 ⟨_, look_mem hl, rfl⟩)
          rw [this] at hz; cases hz
        have hmiss : ∀ b, (∀ c, (g.L b).getLast? = some c → ¬ T c) → L0 b = [] := by
          intro b hb
          simp only [L0, endL]
          split
          · rename_i c hc
            split
            · rename_i k j hl
              exact absurd (hkeyM c _ (look_mem hl)) (hb c hc)
            · rfl
          · rfl
        have hhi : ∀ b, w.heap.size ≤ b → L0 b = [] := fun b hb => h00 b (hv.rel.high b hb)
        let Rg : Nat → Prop := if rs.any Rk.isRo then Src.st.S x g else fun b => b < w.heap.size ∧ L0 b = []
        have hst : ∀ b, Src.st.S x g b → b < w.heap.size ∧ L0 b = [] := by
          intro b hb
          refine ⟨Src.lt hv .st b hb, ?_⟩
          rcases hb with hb | hb
          · exact h00 b (hv.st b (x.sub b hb)).2
          · exact hmiss b (fun c hc => by rw [hb] at hc; cases hc; exact hT0)
        have hRg : ∀ b, Rg b → b < w.heap.size ∧ L0 b = [] := by
          intro b hb
          simp only [Rg] at hb
          split at hb
          · exact hst b hb
          · exact hb
        have hRg0 : ∀ b, Src.st.S x g b → Rg b := by
          intro b hb
          simp only [Rg]
          split
          · exact hb
          · exact hst b hb
        have hRgM : ∀ d, rs.any Rk.isRo = false → memK d (m.map (·.1)) = false → ∀ b, (g.L b).getLast? = some d → Rg b := by
          intro d h1 h2 b hb
          simp only [Rg]
          rw [if_neg (by rw [h1]; simp)]
          refine ⟨last_lt hv.rel.high hb, ?_⟩
          simp only [L0, endL, hb]
          rw [look_none_of (fun p hp e => by
            have : memK d (m.map (·.1)) = true := memK_iff.2 (List.mem_map.2 ⟨p, hp, e⟩)
            rw [this] at h2; cases h2)]
        obtain ⟨vs', hvs, hargs⟩ := openW_ok hv hRg0 (L0 := L0) (M := m.map (·.1)) (ro := rs.any Rk.isRo) hRgM (k := 0) (lab := kdLab 1 (ps.map Pk.kd)) hop (fun d k j hm b q hb => endL_hit hb (look_of_mem hnd hm)) hrd (fun i j => by rw [Nat.zero_add])
        rw [hd] at hvs
        cases hvs
        intro K Q hK
        have hrun : (execOp a.eval o).run x.P w = .ok (.enter f (args.map a.eval)) w := by
          simp only [execOp, ho, resolve, Act.eval]
          simp [Deferred.ofValue, invoke, run_callFunc hcall]
        unfold Oper.wp
        rw [hrun]
        let lab : Nat → Nat → List Nat := fun k j => if k < rs.length then kdLab id (rs.map Rk.kd) k j else labA sl id' ps args.toList (k - rs.length) j
        have hc := hsound w (args.toList.map a.eval) Rg L0 lab hRg hhi hargs
        have hargs' : (args.toList.map a.eval).toArray = args.map a.eval := by
          apply Array.ext'
          simp
        rw [hargs'] at hc
        refine hc.mono (fun e w' he => ?_)
        obtain ⟨L', vals, us1, us2, rfl, rfl, hleft, hress, hbacks⟩ := he
        let vals' : Nat → Option Value := fun c => if c < id' then kdVals w' id (rs.map Rk.kd) vals c else argVals w' id' ps (args.toList.map a.eval) c
        let g' : Gh := { L := fun b => if b < w.heap.size ∧ L0 b = [] then g.L b else L' b, io := fun c => match g.io c with | some v => some v | none => if (look upd c).isSome then vals' c else none, gv := fun c => if (look upd c).isSome then g.gv c + 1 else g.gv c }
        have hLne : ∀ b, L' b ≠ [] → g'.L b = L' b := by
          intro b hb
          simp only [g']
          rw [if_neg (fun h => hb (hleft.old b h.1 h.2).2)]
        have f : Fr (keys upd) w g w' g' := by
          refine ⟨hT0, fun b hb hbc => ?_, fun c v hc => by simp only [g', hc], fun c hc => ?_, fun c hc => ?_, fun c hc => ?_, hleft.size, fun b hb => ?_, hleft.env⟩
          · have hb0 := hmiss b hbc
            exact ⟨(hleft.old b hb hb0).1, by simp only [g']; rw [if_pos ⟨hb, hb0⟩]⟩
          · have hc' : ¬ (look upd c).isSome = true := hc
            simp only [g']
            split
            · rename_i hv'; exact hv'.symm
            · rename_i hv'; rw [if_neg hc', hv']
          · have hc' : ¬ (look upd c).isSome = true := hc
            simp only [g']
            rw [if_neg hc']
          · have hc' : (look upd c).isSome = true := hc
            simp only [g']
            rw [if_pos hc']; omega
          · simp only [g']
            rw [if_neg (by have := hleft.size; omega)]
            exact hleft.high b hb
        have A : After x w g w' g' L' T := by
          refine ⟨fun c sh v cs how => how.frame (fun b q hb => ⟨rfl, ?_⟩), fun b c hb => ?_, f.io, fun c hc => ?_⟩
          · rw [hLne b (by rw [hb]; simp), hb]
          · rw [hLne b (by rw [hb]; simp), hb]
          · have hc' : (look upd c).isSome = true := hc
            simp only [g']; rw [if_pos hc']
        have hfresh : ∀ c, ch c = some .fresh → g.io c = none ∧ g.gv c = 0 := fun c hc => hv.chok hc
        have hTR : ∀ c h, (c, h) ∈ R → T c := fun c h hm => by
          obtain ⟨v, hv⟩ := look_some (l := upd) (c := c) (List.mem_map.2 ⟨(c, h), List.mem_append_left _ hm, rfl⟩)
          show (look upd c).isSome = true
          rw [hv]; rfl
        have hTU : ∀ c h, (c, h) ∈ U → T c := fun c h hm => by
          obtain ⟨v, hv⟩ := look_some (l := upd) (c := c) (List.mem_map.2 ⟨(c, h), List.mem_append_right _ (List.mem_append_left _ hm), rfl⟩)
          show (look upd c).isSome = true
          rw [hv]; rfl
        have hnewU : ∀ (ps : List Pk) (ys : List Operand) (c0 id b : Nat) (es : List E) (m : List (Nat × (Nat × Nat))), openW ch sl c0 ps ys = some (es, m) → ∀ c h, (c, h) ∈ newW id b ps → (c, h) ∈ updW ch sl id b ps ys := by
          intro ps
          induction ps with
          | nil => intro ys c0 id b es m h c h' hm; cases hm
          | cons p ps ih =>
            intro ys c0 id b es m h c h' hm
            cases ys with
            | nil => cases h
            | cons y ys =>
              simp only [openW] at h
              split at h
              · rename_i e m1 es' m2 e1 e2
                simp only [newW, List.mem_append] at hm
                simp only [updW, List.mem_append]
                rcases hm with hm | hm
                · left
                  split at hm
                  · rename_i sh ty kp
                    simp only [openP] at e1
                    split at e1
                    · rename_i d heq
                      split at e1
                      · rename_i cells ty' hd
                        simp only [backP, heq, hd]
                        exact List.mem_cons_of_mem _ hm
                      · cases e1
                    · cases e1
                  · cases hm
                · right; exact ih ys _ _ _ _ _ e2 c h' hm
              · cases h
        have hio0 : ∀ c, ch c = some .fresh → T c → g'.io c = vals' c := fun c hc hT => by
          have hT' : (look upd c).isSome = true := hT
          simp only [g', (hfresh c hc).1]
          rw [if_pos hT']
        have hgv0 : ∀ c, ch c = some .fresh → T c → g'.gv c = 1 := fun c hc hT => by
          have hT' : (look upd c).isSome = true := hT
          simp only [g', (hfresh c hc).2]
          rw [if_pos hT']
        have hkl : ∀ {ks : List Kd} {k : Nat} {us : List V} {vals : List Value} {S L lab}, kdsOk w' S L lab k ks us vals → us.length = ks.length := by
          intro ks
          induction ks with
          | nil => intro k us vals S L lab h; cases us with
            | nil => rfl
            | cons _ _ => cases vals <;> exact h.elim
          | cons r ks ih => intro k us vals S L lab h; cases us with
            | nil => cases vals <;> exact h.elim
            | cons u us => cases vals with
              | nil => exact h.elim
              | cons v vals => simp [ih h.2]
        have hl1 : us1.length = rs.length := by have := hkl hress; simpa using this
        have hρ1 : ∀ j, j < us1.length + us2.length → ρ[n + j]? = (us1 ++ us2)[j]? := fun j hj => hρ j (by rw [← hlen]; simpa using hj)
        subst hR
        obtain ⟨h1, h2⟩ := kds_all (x := x) (ρ := ρ) (n := n) (id := id) (k := 0) (g' := g') hress (fun k' j hk' => by
            rw [Nat.zero_add]
            simp only [lab]
            rw [if_pos (by simpa using hk')])
          (fun j hj => by rw [hρ1 j (by simp at hj; omega), List.getElem?_append_left (by simp at hj; omega)])
          (fun s hm b hb => by
            have hro : rs.any Rk.isRo = true := by
              obtain ⟨r, hr1, hr2⟩ := List.mem_map.1 hm
              refine List.any_eq_true.2 ⟨r, hr1, ?_⟩
              cases r <;> simp [Rk.kd] at hr2 <;> rfl
            rcases hb with hb | hb
            · simp only [Rg, hro, if_true] at hb
              have hb' := hst b hb
              rcases hb with hb | hb
              · exact .inl hb
              · right; simp only [g']; rw [if_pos hb']; exact hb
            · right
              rw [hLne b (by intro e; rw [e] at hb; cases hb)]
              exact hb) A.own A.lab
          (fun c h hm => by
            rw [hio0 c (noneOf_spec hf1 c h hm) (hTR c h hm)]
            simp only [vals']
            rw [if_pos (by have := kdAllCh_ge hm; omega)])
          (fun c h hm => hgv0 c (noneOf_spec hf1 c h hm) (hTR c h hm))
          (fun c d ⟨s, ty, kp, hm, hne⟩ _ => by
            exfalso
            obtain ⟨r, _, hr2⟩ := List.mem_map.1 hm
            cases r <;> simp [Rk.kd] at hr2
            exact hne hr2.2.2)
        subst hU
        obtain ⟨h3, h4⟩ := updW_ok hv A (fun c val hc => CV.frame f hv.rel.high hv.rel.st hc) (id := id') (b := n + rs.length) (k := rs.length) (lab := lab) (us := us2) hop hbacks (fun i j => by
            simp only [lab]
            rw [if_neg (by omega), show rs.length + i - rs.length = i by omega])
          (fun j hj => by rw [show n + rs.length + j = n + (us1.length + j) by omega, hρ1 _ (by omega), List.getElem?_append_right (by omega), show us1.length + j - us1.length = j by omega])
          (fun c h hm => by
            rw [hio0 c (noneOf_spec hf2 c h hm) (hTU c h (hnewU _ _ _ _ _ _ _ hop c h hm))]
            simp only [vals']
            rw [if_neg (by have := newW_ge hm; omega)])
          (fun c h hm => hgv0 c (noneOf_spec hf2 c h hm) (hTU c h (hnewU _ _ _ _ _ _ _ hop c h hm)))
        refine hK _ _ g' f (fun c h hl => ?_) (resSV_ok h1)
        have hm := look_mem hl
        have hTc : T c := by show (look upd c).isSome = true; rw [hl]; rfl
        rcases List.mem_append.1 hm with hm | hm
        · exact h2 c h hm
        · rcases List.mem_append.1 hm with hm | hm
          · exact h4 c h hm hTc
          · obtain ⟨y, _, hy⟩ := List.mem_map.1 hm
            cases hy
            trivial
      · cases hr
    · cases hr
  · cases hr

end
end Go.Proofs.YteleedlkdadogaaGreat.Fw
