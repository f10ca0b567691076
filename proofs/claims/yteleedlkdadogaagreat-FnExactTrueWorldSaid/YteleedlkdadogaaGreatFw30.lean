/- Structs of numbers, bools and strings compared. -/
import Derived.Test.YteleedlkdadogaaGreatFw29
import Derived.ChangeKeysEq
namespace Go.Proofs.YteleedlkdadogaaGreat.Fw
open Go.RowKit

/-- The readable values of cells of these shapes. -/
def scCells : List Sh → List CV → Option (List E)
  | [], [] => some []
  | s :: ss, .sc s' e :: cs => if s.beq s' then (match scCells ss cs with | some es => some (e :: es) | none => none) else none
  | _, _ => none

def scOk : List Sh → List V → List Value → Prop
  | [], [], [] => True
  | s :: ss, v :: vs, c :: cs => Scal s v c ∧ scOk ss vs cs
  | _, _, _ => False

def stepTeq (n : Nat) (T : Nat → Option TI) (sl : Nat → SV) (op : BinOp) (xt : TypeId) (y z : Operand) : Option Res :=
  match T xt with
  | none => none
  | some ti => (match ti.eqs, opnd sl y, opnd sl z with
    | some l, .agg cs, .agg ds => (match scCells l cs, scCells l ds with
      | some es, some fs => (match op with
        | .eql => some ⟨[.pm .teq [mkT es, mkT fs]], [], .cv (.sc .bool (.v n))⟩
        | .neq => some ⟨[.pm .teq [mkT es, mkT fs], .pm .not [.v n]], [], .cv (.sc .bool (.v (n + 1)))⟩
        | _ => none)
      | _, _ => none)
    | _, _, _ => none)

section
variable {x : Fx} {Γ : G} {ρ : List V} {a : Act} {w : World} {g : Gh} {sl : Nat → SV} {ch : Nat → Option Ch} {o : Oper} {res : Res} {P : Program}

theorem scCells_ok : ∀ {l : List Sh} {cs : List CV} {vals : List Value} {es : List E}, cellsOk (CV.ok x w g ρ) cs vals → scCells l cs = some es → ∃ vs, denL ρ es = some vs ∧ scOk l vs vals
  | [], [], [], es, _, h => by
    simp only [scCells, Option.some.injEq] at h
    subst h
    exact ⟨[], rfl, trivial⟩
  | s :: ss, c :: cs, val :: vals, es, hc, h => by
    unfold scCells at h
    split at h
    · rename_i heq; cases heq
    · rename_i s1 ss1 s' e cs1 he1 he2
      cases he1; cases he2
      split at h
      · rename_i hs
        have := Sh.beq_eq hs
        subst this
        split at h
        · rename_i es' h1
          cases h
          obtain ⟨v, hv, hsc⟩ := hc.1
          obtain ⟨vs, hvs, hr⟩ := scCells_ok hc.2 h1
          exact ⟨v :: vs, by simp [denL, hv, hvs], hsc, hr⟩
        · cases h
      · cases h
    · cases h
  | [], _ :: _, _, _, _, h => by simp [scCells] at h
  | [], [], _ :: _, _, hc, _ => hc.elim
  | _ :: _, [], _, _, _, h => by simp [scCells] at h
  | _ :: _, _ :: _, [], _, hc, _ => hc.elim

theorem run_eqFs (d : Nat) {xs ys : List Value} : ∀ {fs : List Field} {i : Nat} {l : List Sh} {us vs : List V}, eqFs P fs i = some l → scOk l us (xs.drop i) → scOk l vs (ys.drop i) →
    (Op.eqFields (d + 1) xs.toArray ys.toArray fs).run P w = .ok (eqVs us vs) w
  | [], i, l, us, vs, h, h1, h2 => by
    simp only [eqFs, Option.some.injEq] at h
    subst h
    cases hx : xs.drop i with
    | nil => rw [hx] at h1; cases hy : ys.drop i with
      | nil =>
        rw [hy] at h2
        cases us <;> cases vs <;> first | (simp [Op.eqFields, eqVs]; done) | exact h1.elim | exact h2.elim
      | cons _ _ => rw [hy] at h2; cases vs <;> exact h2.elim
    | cons _ _ => rw [hx] at h1; cases us <;> exact h1.elim
  | f :: fs, i, l, us, vs, h, h1, h2 => by
    simp only [eqFs] at h
    split at h
    · cases h
    · rename_i hn
      simp only [Bool.or_eq_true, beq_iff_eq, Bool.not_eq_true', not_or, Bool.not_eq_false] at hn
      obtain ⟨hn, ho⟩ := hn
      have ho := Nat.eq_of_beq_eq_true ho
      have hgen : ∀ (s : Sh) (l' : List Sh), l = s :: l' → eqFs P fs (i + 1) = some l' → P.plainKey f.type = true → (∀ u v p q, Scal s u p → Scal s v q → (Op.equalIn (d + 1) f.type p q).run P w = .ok (eqV u v) w) →
          (Op.eqFields (d + 1) xs.toArray ys.toArray (f :: fs)).run P w = .ok (eqVs us vs) w := by
        intro s l' hl hfs hp heq
        subst hl
        cases hx : xs.drop i with
        | nil => rw [hx] at h1; cases us <;> exact h1.elim
        | cons p xs' => cases hy : ys.drop i with
          | nil => rw [hy] at h2; cases vs <;> exact h2.elim
          | cons q ys' =>
            rw [hx] at h1
            rw [hy] at h2
            cases us with
            | nil => exact h1.elim
            | cons u us => cases vs with
              | nil => exact h2.elim
              | cons v vs =>
                have hx' : xs.drop (i + 1) = xs' := by have := congrArg (List.drop 1) hx; simpa [List.drop_drop, Nat.add_comm] using this
                have hy' : ys.drop (i + 1) = ys' := by have := congrArg (List.drop 1) hy; simpa [List.drop_drop, Nat.add_comm] using this
                have hxi : xs.toArray[f.offset]? = some p := by have := congrArg (·[0]?) hx; rw [ho]; simpa using this
                have hyi : ys.toArray[f.offset]? = some q := by have := congrArg (·[0]?) hy; rw [ho]; simpa using this
                have hrest := run_eqFs d (us := us) (vs := vs) hfs (by rw [hx']; exact h1.2) (by rw [hy']; exact h2.2)
                simp only [Op.eqFields, hn, ne_eq, not_false_eq_true, if_true, Sem.run_bind, run_part_plain w hp hxi, run_part_plain w hp hyi, heq u v p q h1.1 h2.1, Result.andThen_ok, eqVs]
                cases eqV u v
                · simp
                · simpa using hrest
      split at h
      · rename_i k l' hu hfs
        cases h
        refine hgen _ l' rfl hfs (by simp [Program.plainKey, hu]) (fun u v p q hp hq => ?_)
        obtain ⟨n, rfl, rfl⟩ := hp
        obtain ⟨m, rfl, rfl⟩ := hq
        exact run_equalIn_int w d f.type k k n m hu
      · rename_i l' hu hfs
        cases h
        refine hgen _ l' rfl hfs (by simp [Program.plainKey, hu]) (fun u v p q hp hq => ?_)
        obtain ⟨n, rfl, rfl⟩ := hp
        obtain ⟨m, rfl, rfl⟩ := hq
        exact run_equalIn_bool' w d f.type n m hu
      · rename_i l' hu hfs
        cases h
        refine hgen _ l' rfl hfs (by simp [Program.plainKey, hu]) (fun u v p q hp hq => ?_)
        obtain ⟨n, rfl, rfl⟩ := hp
        obtain ⟨m, rfl, rfl⟩ := hq
        rw [run_equalIn_string w d f.type _ _ hu, toList_mk, toList_mk]
        rfl
      · cases h

theorem run_teq {t : TypeId} {l : List Sh} (h : eqOf P t = some l) {xs ys : List Value} {us vs : List V} (h1 : scOk l us xs) (h2 : scOk l vs ys) :
    (Op.equal t (.agg xs.toArray) (.agg ys.toArray)).run P w = .ok (eqVs us vs) w ∧ P.eqGuardType P.depth t = false := by
  unfold eqOf at h
  split at h
  · rename_i F hu
    split at h
    · cases h
    · rename_i hc
      simp only [Bool.or_eq_true, not_or, Bool.not_eq_true] at hc
      have hf : P.fieldsOf t = F := by simp [Program.fieldsOf, hu]
      refine ⟨?_, hc.2⟩
      unfold Op.equal Op.maxDepth
      rw [run_equalIn_struct (P := P) w 9999 t _ _ (by rw [hf]; exact hu) hc.1, hf]
      exact run_eqFs 9998 h (by simpa using h1) (by simpa using h2)
  · cases h

theorem good_teq {T : Nat → Option TI} (hT : TabOk x.P T) (hv : Vw x Γ ρ a w g sl ch) {C : Nat → List V → List V → Prop} {n : Nat} {op : BinOp} {xt yt : TypeId} {y z : Operand}
    (ho : o.op = .binOp op xt y z yt) (hr : stepTeq n T sl op xt y z = some res) (he : EmsOk C ρ n res.ems) : Good x ρ a w g o res := by
  unfold stepTeq at hr
  split at hr
  · cases hr
  · rename_i ti hti
    have hti := hT _ _ hti
    split at hr
    · rename_i l cs ds hl hy hz
      split at hr
      · rename_i es fs h1 h2
        obtain ⟨ys, ey, hcy⟩ : (SV.agg cs).ok (CV.ok x w g ρ) (a.eval y) := by have := hv.opnd y; rw [hy] at this; exact this
        obtain ⟨zs, ez, hcz⟩ : (SV.agg ds).ok (CV.ok x w g ρ) (a.eval z) := by have := hv.opnd z; rw [hz] at this; exact this
        obtain ⟨us, hus, su⟩ := scCells_ok hcy h1
        obtain ⟨vs, hvs, sv⟩ := scCells_ok hcz h2
        obtain ⟨hrun, hgd⟩ := run_teq (P := x.P) (w := w) (hti.eq _ hl) su sv
        have hexec : ∀ val, (binOp op xt (.agg ys.toArray) (.agg zs.toArray)).run x.P w = .ok val w → (execOp a.eval o).run x.P w = .ok (.value val) w := by
          intro val hb
          simp only [execOp, ho, ey, ez]
          have hg : (eqGuard op xt y z (.agg ys.toArray) (.agg zs.toArray)).run x.P w = .ok () w := by
            cases op <;> simp [eqGuard, run_program, hgd]
          simp [hg, hb]
        split at hr
        · cases hr
          obtain ⟨⟨as, v, hd, hev, hn⟩, _⟩ := he
          simp only [denL, mkT_den hus, mkT_den hvs, Option.some.injEq] at hd
          subst hd
          simp only [Pm.ev, Option.some.injEq] at hev
          subst hev
          refine good_pure hv (val := .bool (eqVs us vs)) (hexec _ ?_) rfl ⟨_, hn, _, rfl, rfl⟩
          simp [binOp, hrun]
        · cases hr
          obtain ⟨⟨as, v, hd, hev, hn⟩, ⟨bs, v', hd', hev', hn'⟩, _⟩ := he
          simp only [denL, mkT_den hus, mkT_den hvs, Option.some.injEq] at hd
          subst hd
          simp only [Pm.ev, Option.some.injEq] at hev
          subst hev
          simp only [denL, E.den, hn, Option.some.injEq] at hd'
          subst hd'
          simp only [Pm.ev, Option.some.injEq] at hev'
          subst hev'
          refine good_pure hv (val := .bool (!(eqVs us vs))) (hexec _ ?_) rfl ⟨_, hn', _, rfl, rfl⟩
          simp [binOp, hrun]
        · cases hr
      · cases hr
    · cases hr

end
end Go.Proofs.YteleedlkdadogaaGreat.Fw
