/- Pure programs that go through a struct, by a run. -/
import Derived.Test.YteleedlkdadogaaGreatFw25
namespace Go.Proofs.YteleedlkdadogaaGreat.Fw
open Go.RowKit

def EnvOk (ρ0 : List V) (env : List E) (ρ : List V) : Prop := env.length = ρ.length ∧ ∀ (n : Nat) (e : E), env[n]? = some e → ∃ x, e.den ρ0 = some x ∧ ρ[n]? = some x

theorem EnvOk.snoc {ρ0 ρ : List V} {env : List E} (h : EnvOk ρ0 env ρ) {e : E} {x : V} (he : e.den ρ0 = some x) : EnvOk ρ0 (env ++ [e]) (ρ ++ [x]) := by
  refine ⟨by simp [h.1], fun n e' hn => ?_⟩
  rcases Nat.lt_or_ge n env.length with hlt | hge
  · rw [List.getElem?_append_left hlt] at hn
    obtain ⟨y, h1, h2⟩ := h.2 n e' hn
    exact ⟨y, h1, by rw [List.getElem?_append_left (by rw [← h.1]; exact hlt)]; exact h2⟩
  · rw [List.getElem?_append_right hge] at hn
    have h0 : n - env.length = 0 := by
      rcases Nat.eq_zero_or_pos (n - env.length) with h | h
      · exact h
      · rw [List.getElem?_eq_none (by simp; omega)] at hn; cases hn
    rw [h0] at hn
    simp at hn
    subst hn
    exact ⟨x, he, by rw [List.getElem?_append_right (by rw [← h.1]; exact hge), ← h.1, h0]; rfl⟩

def toRun (K : Nat → Option Sh) (sh : Sh) : A → List E → Option E
  | .out m [e], env => if Nat.beq m 1 then subE env e else none
  | .cl f [e] m k, env => if Nat.beq m 1 then (match subE env e, K f with
    | some e', some s => (match argE sh e' with
      | some (_, s') => if s'.beq s then toRun K sh k (env ++ [e']) else none
      | none => none)
    | _, _ => none) else none
  | _, _ => none

def pmOk : Pm → Sh → Bool
  | .ne, .int _ => true
  | .bne, .bool => true
  | .sne, .str => true
  | _, _ => false

def eqRun (K : Nat → Option Sh) (sh : Sh) : A → List E → Bool
  | .out m [e], env => Nat.beq m 1 && (match subE env e with | some (.kb b) => b | _ => false)
  | .cl f [e1, e2] m k, env => Nat.beq m 1 && (match subE env e1, subE env e2, K f with
    | some a, some b, some s => a.beq b && (match argE sh a with | some (_, s') => s'.beq s | none => false) && eqRun K sh k (env ++ [.kb true])
    | _, _, _ => false)
  | .pm p [e1, e2] k, env => (match subE env e1, subE env e2 with
    | some a, some b => a.beq b && (match fld sh a with | some (_, s) => pmOk p s | none => false) && eqRun K sh k (env ++ [.kb false])
    | _, _ => false)
  | .pm .not [e] k, env => (match subE env e with
    | some (.kb b) => eqRun K sh k (env ++ [.kb (!b)])
    | _ => false)
  | .ite c a b, env => (match subE env c with
    | some (.kb x) => if x then eqRun K sh a env else eqRun K sh b env
    | _ => false)
  | _, _ => false

def szRun (K : Nat → Option Sh) (sh : Sh) : A → Nat → Nat → List Nat → Option (List Nat)
  | .out m [e], cur, _, cov => if Nat.beq m 1 && e.beq (.v cur) then some cov else none
  | .cl f [e, l] m (.pm .lt [x, z] (.ite c (.out m1 [z1]) k)), cur, next, cov =>
    if Nat.beq m 1 && l.beq (.v cur) && x.beq (.v next) && z.beq (.ki 0) && c.beq (.v (next + 1)) && Nat.beq m1 1 && z1.beq (.ki (-1)) then (match argE sh e, K f with
      | some (js, s'), some s => if s'.beq s then szRun K sh k next (next + 2) (js ++ cov) else none
      | _, _ => none) else none
  | .pm .slen [e] (.pm (.sub .i64) [l, a] (.pm .lt [x, z] (.ite c (.out m1 [z1]) k))), cur, next, cov =>
    if l.beq (.v cur) && a.beq (.v next) && x.beq (.v (next + 1)) && z.beq (.ki 0) && c.beq (.v (next + 2)) && Nat.beq m1 1 && z1.beq (.ki (-1)) then (match fld sh e with
      | some (_, .str) => szRun K sh k (next + 1) (next + 3) cov
      | _ => none) else none
  | _, _, _, _ => none

def covOk (sh : Sh) (cov : List Nat) : Bool := (List.range sh.sz).all fun j => match sh.leaf j with | some s => s.flat || memN j cov | none => false

section
variable {C : Nat → List V → List V → Prop} {K : Nat → Option Sh} {sh : Sh} {fs : List V}

theorem toRun_ok (hK : ∀ f s, K f = some s → ToF C f s) (hbd : Bd sh (.t fs)) : ∀ {a : A} {env : List E} {ρ : List V} {e : E}, toRun K sh a env = some e → EnvOk [.t fs] env ρ → ∀ {u : V}, e.den [.t fs] = some u → a.wp C (ans [u]) ρ := by
  intro a
  induction a with
  | out m es =>
    intro env ρ e h henv u hu
    cases es with
    | nil => simp [toRun] at h
    | cons e0 es =>
      cases es with
      | cons _ _ => simp [toRun] at h
      | nil =>
        simp only [toRun] at h
        split at h
        · rename_i hm
          have := Nat.eq_of_beq_eq_true hm
          have hd := subE_ok henv.2 h hu
          exact ⟨[u], by simp [denL, hd], this, rfl⟩
        · cases h
  | cl f args m k ih =>
    intro env ρ e h henv u hu
    cases args with
    | nil => simp [toRun] at h
    | cons e0 es =>
      cases es with
      | cons _ _ => simp [toRun] at h
      | nil =>
        simp only [toRun] at h
        split at h
        · rename_i hm
          have hm := Nat.eq_of_beq_eq_true hm
          split at h
          · rename_i e' s h1 h2
            split at h
            · rename_i js s' h3
              split at h
              · rename_i hs
                have := Sh.beq_eq hs
                subst this
                obtain ⟨x, hx, hbx⟩ := argE_bd (ρ := [.t fs]) rfl hbd h3
                have hd := subE_ok henv.2 h1 hx
                exact ⟨[x], [x], by simp [denL, hd], hK f _ h2 x hbx, by simp [hm], ih h (henv.snoc hx) hu⟩
              · cases h
            · cases h
          · cases h
        · cases h
  | _ => intro env ρ e h; simp [toRun] at h

theorem to_struct (hK : ∀ f s, K f = some s → ToF C f s) {a : A} (hst : sh.isSt = true) (hch : sh.chain = true) (h : toRun K sh a [.v 0] = some (fieldsE 0 0 sh.sz)) {v : V} (hv : Bd sh v) : a.wp C (ans [v]) [v] := by
  obtain ⟨fs, rfl, hl⟩ := hv.wt.len hst hch
  refine toRun_ok hK hv h ⟨rfl, fun n e hn => ?_⟩ (by rw [fieldsE_den (fs := fs) rfl (by omega)]; simp)
  cases n with
  | zero => simp at hn; subst hn; exact ⟨_, rfl, rfl⟩
  | succ n => simp at hn

theorem pmOk_ev {p : Pm} {s : Sh} (h : pmOk p s = true) {x : V} (hx : Bd s x) : p.ev [x, x] = some (.b false) := by
  cases p <;> cases s <;> simp only [pmOk, Bool.false_eq_true] at h
  · obtain ⟨n, rfl, _⟩ := hx; simp [Pm.ev]
  · obtain ⟨n, rfl⟩ := hx; simp [Pm.ev]
  · obtain ⟨n, rfl, _⟩ := hx; simp [Pm.ev]

theorem eqRun_ok (hK : ∀ f s, K f = some s → EqF C f s) (hbd : Bd sh (.t fs)) : ∀ {a : A} {env : List E} {ρ : List V}, eqRun K sh a env = true → EnvOk [.t fs] env ρ → a.wp C (ans [.b true]) ρ := by
  intro a
  induction a with
  | out m es =>
    intro env ρ h henv
    match es with
    | [] => simp [eqRun] at h
    | _ :: _ :: _ => simp [eqRun] at h
    | [e0] =>
      simp only [eqRun, Bool.and_eq_true] at h
      obtain ⟨hm, h⟩ := h
      split at h
      · rename_i b h1
        subst h
        have hd := subE_ok henv.2 h1 (u := .b true) rfl
        exact ⟨[.b true], by simp [denL, hd], Nat.eq_of_beq_eq_true hm, rfl⟩
      · cases h
  | cl f args m k ih =>
    intro env ρ h henv
    match args with
    | [] => simp [eqRun] at h
    | [_] => simp [eqRun] at h
    | _ :: _ :: _ :: _ => simp [eqRun] at h
    | [e1, e2] =>
      simp only [eqRun, Bool.and_eq_true] at h
      obtain ⟨hm, h⟩ := h
      split at h
      · rename_i a1 b1 s h1 h2 h3
        simp only [Bool.and_eq_true] at h
        obtain ⟨⟨hab, hsh⟩, hk⟩ := h
        have := E.beq_eq hab
        subst this
        split at hsh
        · rename_i js s' h4
          have := Sh.beq_eq hsh
          subst this
          obtain ⟨x, hx, hbx⟩ := argE_bd (ρ := [.t fs]) rfl hbd h4
          exact ⟨[x, x], [.b true], by simp [denL, subE_ok henv.2 h1 hx, subE_ok henv.2 h2 hx], hK f _ h3 x hbx, by simp [Nat.eq_of_beq_eq_true hm], ih hk (henv.snoc rfl)⟩
        · cases hsh
      · cases h
  | pm p args k ih =>
    intro env ρ h henv
    match args with
    | [] => cases p <;> simp [eqRun] at h
    | [e] =>
      cases p <;> simp only [eqRun, Bool.false_eq_true] at h
      split at h
      · rename_i b h1
        exact ⟨[.b b], .b (!b), by simp [denL, subE_ok henv.2 h1 (u := .b b) rfl], rfl, ih h (henv.snoc rfl)⟩
      · cases h
    | [e1, e2] =>
      have h' : (match subE env e1, subE env e2 with
        | some a, some b => a.beq b && (match fld sh a with | some (_, s) => pmOk p s | none => false) && eqRun K sh k (env ++ [.kb false])
        | _, _ => false) = true := by cases p <;> exact h
      split at h'
      · rename_i a1 b1 h1 h2
        simp only [Bool.and_eq_true] at h'
        obtain ⟨⟨hab, hsh⟩, hk⟩ := h'
        have := E.beq_eq hab
        subst this
        split at hsh
        · rename_i j s h4
          obtain ⟨x, hx, hbx, _⟩ := fld_ok (Q := Bd) (ρ := [.t fs]) (fun _ _ _ h => h) rfl hbd h4
          exact ⟨[x, x], .b false, by simp [denL, subE_ok henv.2 h1 hx, subE_ok henv.2 h2 hx], pmOk_ev hsh hbx, ih hk (henv.snoc rfl)⟩
        · cases hsh
      · cases h'
    | _ :: _ :: _ :: _ => cases p <;> simp [eqRun] at h
  | ite c a b iha ihb =>
    intro env ρ h henv
    simp only [eqRun] at h
    split at h
    · rename_i y h1
      refine ⟨y, subE_ok henv.2 h1 rfl, fun hy => ?_, fun hy => ?_⟩
      · subst hy; exact iha (by simpa using h) henv
      · subst hy; exact ihb (by simpa using h) henv
    · cases h
  | _ => intro env ρ h; simp [eqRun] at h

theorem eq_struct (hK : ∀ f s, K f = some s → EqF C f s) {a : A} (hst : sh.isSt = true) (hch : sh.chain = true) (h : eqRun K sh a [.v 0, .v 0] = true) {v : V} (hv : Bd sh v) : a.wp C (ans [.b true]) [v, v] := by
  obtain ⟨fs, rfl, hl⟩ := hv.wt.len hst hch
  refine eqRun_ok hK hv h ⟨rfl, fun n e hn => ?_⟩
  match n with
  | 0 => simp at hn; subst hn; exact ⟨_, rfl, rfl⟩
  | 1 => simp at hn; subst hn; exact ⟨_, rfl, rfl⟩
  | n + 2 => simp at hn

end
end Go.Proofs.YteleedlkdadogaaGreat.Fw
