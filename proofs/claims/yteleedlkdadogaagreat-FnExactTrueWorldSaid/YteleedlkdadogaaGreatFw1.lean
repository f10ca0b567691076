/- The pure side of the framework: values, shapes, expressions, pure programs and what they mean. -/
import Derived.WalkKit
namespace Go.Proofs.YteleedlkdadogaaGreat.Fw
open Go.RowKit

/-- Pure values: what a Go value is, memory apart. A struct in a list, or as an argument, is the list of its cells. -/
inductive V where
  | un
  | i (n : Int)
  | b (x : Bool)
  | s (x : List UInt8)
  | l (xs : List V)
  | t (xs : List V)
  deriving Inhabited

/-- Shapes of one cell, or (nil, cons) of a struct's cells in order. -/
inductive Sh where
  | int (k : IntKind)
  | bool
  | str
  | sl (e : Sh) (et : TypeId)
  | nil
  | cons (h t : Sh)

def Sh.sz : Sh → Nat
  | .nil => 0
  | .cons _ t => t.sz + 1
  | _ => 1

def Sh.isSt : Sh → Bool
  | .nil => true
  | .cons _ _ => true
  | _ => false

def kindEq : IntKind → IntKind → Bool
  | .i8, .i8 => true | .i16, .i16 => true | .i32, .i32 => true | .i64, .i64 => true
  | .u8, .u8 => true | .u16, .u16 => true | .u32, .u32 => true | .u64, .u64 => true
  | _, _ => false

theorem kindEq_eq {a b : IntKind} (h : kindEq a b = true) : a = b := by cases a <;> cases b <;> first | rfl | cases h

def Sh.beq : Sh → Sh → Bool
  | .int k, .int k' => kindEq k k'
  | .bool, .bool => true
  | .str, .str => true
  | .sl e t, .sl e' t' => e.beq e' && Nat.beq t t'
  | .nil, .nil => true
  | .cons h t, .cons h' t' => h.beq h' && t.beq t'
  | _, _ => false

theorem Sh.beq_eq : ∀ {a b : Sh}, a.beq b = true → a = b := by
  intro a
  induction a with
  | int k => intro b h; cases b <;> simp_all [Sh.beq]; exact kindEq_eq h
  | bool => intro b h; cases b <;> simp_all [Sh.beq]
  | str => intro b h; cases b <;> simp_all [Sh.beq]
  | sl e t ih => intro b h; cases b <;> simp_all [Sh.beq]; exact ih h.1
  | nil => intro b h; cases b <;> simp_all [Sh.beq]
  | cons h t ih1 ih2 => intro b hb; cases b <;> simp_all [Sh.beq]; exact ⟨ih1 hb.1, ih2 hb.2⟩

/-- Expressions over the values met so far. -/
inductive E where
  | v (n : Nat)
  | ki (n : Int)
  | kb (x : Bool)
  | ks (x : List UInt8)
  | kl
  | pj (e : E) (j : Nat)
  | tn
  | tc (h t : E)

def bytesEq : List UInt8 → List UInt8 → Bool
  | [], [] => true
  | a :: x, b :: y => Nat.beq a.toNat b.toNat && bytesEq x y
  | _, _ => false

theorem bytesEq_eq : ∀ {a b : List UInt8}, bytesEq a b = true → a = b
  | [], [], _ => rfl
  | a :: x, b :: y, h => by
    simp only [bytesEq, Bool.and_eq_true] at h
    rw [bytesEq_eq h.2, UInt8.toNat_inj.1 (Nat.eq_of_beq_eq_true h.1)]
  | [], _ :: _, h => by cases h
  | _ :: _, [], h => by cases h

def intEq : Int → Int → Bool
  | .ofNat a, .ofNat b => Nat.beq a b
  | .negSucc a, .negSucc b => Nat.beq a b
  | _, _ => false

theorem intEq_eq {a b : Int} (h : intEq a b = true) : a = b := by
  cases a <;> cases b <;> simp_all [intEq]

def E.beq : E → E → Bool
  | .v n, .v m => Nat.beq n m
  | .ki n, .ki m => intEq n m
  | .kb x, .kb y => x == y
  | .ks x, .ks y => bytesEq x y
  | .kl, .kl => true
  | .pj e j, .pj e' j' => e.beq e' && Nat.beq j j'
  | .tn, .tn => true
  | .tc h t, .tc h' t' => h.beq h' && t.beq t'
  | _, _ => false

theorem E.beq_eq : ∀ {a b : E}, a.beq b = true → a = b := by
  intro a
  induction a with
  | v n => intro b h; cases b <;> simp_all [E.beq]
  | ki n => intro b h; cases b <;> simp_all [E.beq]; exact intEq_eq h
  | kb n => intro b h; cases b <;> simp_all [E.beq]
  | ks n => intro b h; cases b <;> simp_all [E.beq]; exact bytesEq_eq h
  | kl => intro b h; cases b <;> simp_all [E.beq]
  | pj e j ih => intro b h; cases b <;> simp_all [E.beq]; exact ih h.1
  | tn => intro b h; cases b <;> simp_all [E.beq]
  | tc h t ih1 ih2 => intro b hb; cases b <;> simp_all [E.beq]; exact ⟨ih1 hb.1, ih2 hb.2⟩

def E.den (ρ : List V) : E → Option V
  | .v n => ρ[n]?
  | .ki n => some (.i n)
  | .kb x => some (.b x)
  | .ks x => some (.s x)
  | .kl => some (.l [])
  | .pj e j => match e.den ρ with | some (.t xs) => xs[j]? | _ => none
  | .tn => some (.t [])
  | .tc h t => match h.den ρ, t.den ρ with | some x, some (.t xs) => some (.t (x :: xs)) | _, _ => none

/-- More values: the same answers. -/
theorem E.den_app {ρ : List V} (δ : List V) : ∀ {e : E} {v : V}, e.den ρ = some v → e.den (ρ ++ δ) = some v := by
  intro e
  induction e with
  | v n =>
    intro v h
    simp only [E.den] at h ⊢
    rw [List.getElem?_append_left (by have := List.getElem?_eq_some_iff.1 h; exact this.1)]
    exact h
  | ki n => intro v h; exact h
  | kb n => intro v h; exact h
  | ks n => intro v h; exact h
  | kl => intro v h; exact h
  | tn => intro v h; exact h
  | pj e j ih =>
    intro v h
    simp only [E.den] at h ⊢
    cases he : e.den ρ with
    | none => simp [he] at h
    | some x => rw [ih he]; rw [he] at h; exact h
  | tc a t ih1 ih2 =>
    intro v h
    simp only [E.den] at h ⊢
    cases ha : a.den ρ with
    | none => simp [ha] at h
    | some x =>
      cases ht : t.den ρ with
      | none => simp [ha, ht] at h
      | some y => rw [ih1 ha, ih2 ht]; rw [ha, ht] at h; exact h

def denL (ρ : List V) : List E → Option (List V)
  | [] => some []
  | e :: es => match e.den ρ, denL ρ es with | some v, some vs => some (v :: vs) | _, _ => none

theorem denL_app {ρ : List V} (δ : List V) : ∀ {es : List E} {vs : List V}, denL ρ es = some vs → denL (ρ ++ δ) es = some vs
  | [], _, h => h
  | e :: es, vs, h => by
    simp only [denL] at h ⊢
    cases he : e.den ρ with
    | none => simp [he] at h
    | some x =>
      cases hs : denL ρ es with
      | none => simp [he, hs] at h
      | some y => rw [E.den_app δ he, denL_app δ hs]; rw [he, hs] at h; exact h

theorem denL_length {ρ : List V} : ∀ {es : List E} {vs : List V}, denL ρ es = some vs → vs.length = es.length
  | [], vs, h => by simp only [denL, Option.some.injEq] at h; subst h; rfl
  | e :: es, vs, h => by
    simp only [denL] at h
    cases he : e.den ρ with
    | none => simp [he] at h
    | some x =>
      cases hs : denL ρ es with
      | none => simp [he, hs] at h
      | some y => rw [he, hs] at h; cases h; simp [denL_length hs]

theorem denL_get {ρ : List V} : ∀ {es : List E} {vs : List V}, denL ρ es = some vs → ∀ {j : Nat} {e : E}, es[j]? = some e → ∃ v, vs[j]? = some v ∧ e.den ρ = some v
  | [], vs, _, j, e, hj => by simp at hj
  | e0 :: es, vs, h, j, e, hj => by
    simp only [denL] at h
    cases he : e0.den ρ with
    | none => simp [he] at h
    | some x =>
      cases hs : denL ρ es with
      | none => simp [he, hs] at h
      | some y =>
        rw [he, hs] at h; cases h
        cases j with
        | zero => simp at hj; subst hj; exact ⟨x, rfl, he⟩
        | succ j => simpa using denL_get hs (by simpa using hj)

/-- What one step of a pure program computes. -/
inductive Pm where
  | add (k : IntKind) | sub (k : IntKind) | mul (k : IntKind) | quo (k : IntKind) | rem (k : IntKind)
  | band (k : IntKind) | bor (k : IntKind) | bxor (k : IntKind) | shl (k : IntKind) | shr (k : IntKind)
  | eq | ne | lt | le | gt | ge
  | beq | bne | not | cvt (k : IntKind)
  | max2 | min2
  | slen | sidx | ssub | scat | seq | sne
  | llen | lget | lset | lsetr (j : Nat) | lsub | lapp (bytes : Nat) | lput (bytes : Nat) | lmk (bytes : Nat)
  | lstr | strl | lits | teq

def subL {α : Type} (xs : List α) (lo hi : Int) : Option (List α) :=
  if 0 ≤ lo ∧ lo ≤ hi ∧ hi ≤ xs.length then some ((xs.take hi.toNat).drop lo.toNat) else none

def roomFor (n bytes : Nat) : Prop := n ≤ 9223372036854775807 ∧ n * bytes ≤ 140737488355328

instance (n bytes : Nat) : Decidable (roomFor n bytes) := by unfold roomFor; infer_instance

def strBytes : List V → Option (List UInt8)
  | [] => some []
  | .i n :: xs => (strBytes xs).map (UInt8.ofNat n.toNat :: ·)
  | _ => none

def bytesV (s : List UInt8) : List V := s.map fun c => V.i c.toNat

def eqV : V → V → Bool
  | .i a, .i b => a == b
  | .b a, .b b => a == b
  | .s a, .s b => a == b
  | _, _ => false

def eqVs : List V → List V → Bool
  | [], [] => true
  | a :: as, b :: bs => eqV a b && eqVs as bs
  | _, _ => false

def Pm.ev : Pm → List V → Option V
  | .add k, [.i a, .i b] => some (.i (k.wrap (a + b)))
  | .sub k, [.i a, .i b] => some (.i (k.wrap (a - b)))
  | .mul k, [.i a, .i b] => some (.i (k.wrap (a * b)))
  | .quo k, [.i a, .i b] => if b = 0 then none else some (.i (k.wrap (a.tdiv b)))
  | .rem _, [.i a, .i b] => if b = 0 then none else some (.i (a.tmod b))
  | .band k, [.i a, .i b] => some (.i (k.wrap (BitVec.ofInt k.bits a &&& BitVec.ofInt k.bits b).toNat))
  | .bor k, [.i a, .i b] => some (.i (k.wrap (BitVec.ofInt k.bits a ||| BitVec.ofInt k.bits b).toNat))
  | .bxor k, [.i a, .i b] => some (.i (k.wrap (BitVec.ofInt k.bits a ^^^ BitVec.ofInt k.bits b).toNat))
  | .shl k, [.i a, .i b] => if b < 0 then none else some (.i (k.wrap (a * 2 ^ min b.toNat k.bits)))
  | .shr k, [.i a, .i b] => if b < 0 then none else some (.i (a.fdiv (2 ^ min b.toNat k.bits)))
  | .eq, [.i a, .i b] => some (.b (a == b))
  | .ne, [.i a, .i b] => some (.b (a != b))
  | .lt, [.i a, .i b] => some (.b (decide (a < b)))
  | .le, [.i a, .i b] => some (.b (decide (a ≤ b)))
  | .gt, [.i a, .i b] => some (.b (decide (a > b)))
  | .ge, [.i a, .i b] => some (.b (decide (a ≥ b)))
  | .beq, [.b a, .b b] => some (.b (a == b))
  | .bne, [.b a, .b b] => some (.b (!(a == b)))
  | .not, [.b a] => some (.b (!a))
  | .cvt k, [.i a] => some (.i (k.wrap a))
  | .max2, [.i a, .i b] => some (.i (if b > a then b else a))
  | .min2, [.i a, .i b] => some (.i (if b < a then b else a))
  | .slen, [.s x] => some (.i x.length)
  | .sidx, [.s x, .i n] => if 0 ≤ n then (x[n.toNat]?).map fun c => .i c.toNat else none
  | .ssub, [.s x, .i lo, .i hi] => (subL x lo hi).map .s
  | .scat, [.s x, .s y] => if x.length + y.length ≤ 9223372036854775807 then some (.s (x ++ y)) else none
  | .seq, [.s x, .s y] => some (.b (x == y))
  | .sne, [.s x, .s y] => some (.b (!(x == y)))
  | .llen, [.l xs] => some (.i xs.length)
  | .lget, [.l xs, .i n] => if 0 ≤ n then xs[n.toNat]? else none
  | .lset, [.l xs, .i n, v] => if 0 ≤ n ∧ n < xs.length then some (.l (xs.set n.toNat v)) else none
  | .lsetr j, [.l xs, .i n, .t gs] =>
    if 0 ≤ n then (match xs[n.toNat]? with
      | some (.t fs) => if j + gs.length ≤ fs.length then some (.l (xs.set n.toNat (.t (fs.take j ++ gs ++ fs.drop (j + gs.length))))) else none
      | _ => none) else none
  | .lsub, [.l xs, .i lo, .i hi] => (subL xs lo hi).map .l
  | .lapp bytes, [.l xs, .l ys] => if roomFor (xs.length + ys.length) bytes then some (.l (xs ++ ys)) else none
  | .lput bytes, [.l xs, v] => if roomFor (xs.length + 1) bytes then some (.l (xs ++ [v])) else none
  | .lmk bytes, [.i n, .i c, v] => if 0 ≤ n ∧ n ≤ c ∧ roomFor c.toNat bytes then some (.l (List.replicate n.toNat v)) else none
  | .lstr, [.s x] => some (.l (bytesV x))
  | .strl, [.l xs] => (strBytes xs).map .s
  | .lits, vs => some (.l vs)
  | .teq, [.t us, .t vs] => some (.b (eqVs us vs))
  | _, _ => none

/-- Pure programs. `out m es`: end with tag m; `jn m a k`: where a ends with tag m, k goes on with the values behind those that were there;
`lp m init body`: body is gone through again where it ends with tag m. -/
inductive A where
  | pm (p : Pm) (args : List E) (k : A)
  | cl (f : Nat) (args : List E) (m : Nat) (k : A)
  | ite (c : E) (a b : A)
  | out (m : Nat) (es : List E)
  | jn (m : Nat) (a k : A)
  | lp (m : Nat) (init : List E) (body : A)

def loopN (B : List V → (Nat → List V → Prop) → Prop) (m : Nat) (Q : Nat → List V → Prop) : Nat → List V → Prop
  | 0, _ => False
  | n + 1, vs => B vs fun m' vs' => if m' = m then loopN B m Q n vs' else Q m' vs'

/-- What must hold ahead of a pure program, so that it ends, with what Q says. `C f args results`: what a called function answers. -/
def A.wp (C : Nat → List V → List V → Prop) : A → (Nat → List V → Prop) → List V → Prop
  | .pm p args k, Q, ρ => ∃ vs v, denL ρ args = some vs ∧ p.ev vs = some v ∧ k.wp C Q (ρ ++ [v])
  | .cl f args m k, Q, ρ => ∃ vs rs, denL ρ args = some vs ∧ C f vs rs ∧ rs.length = m ∧ k.wp C Q (ρ ++ rs)
  | .ite c a b, Q, ρ => ∃ x, c.den ρ = some (.b x) ∧ (x = true → a.wp C Q ρ) ∧ (x = false → b.wp C Q ρ)
  | .out m es, Q, ρ => ∃ vs, denL ρ es = some vs ∧ Q m vs
  | .jn m a k, Q, ρ => a.wp C (fun m' vs => if m' = m then k.wp C Q (ρ ++ vs) else Q m' vs) ρ
  | .lp m init body, Q, ρ => ∃ vs, denL ρ init = some vs ∧ ∃ n, loopN (fun vs' R => body.wp C R (ρ ++ vs')) m Q n vs

theorem A.wp_mono {C : Nat → List V → List V → Prop} : ∀ (a : A) {Q Q' : Nat → List V → Prop} {ρ : List V}, (∀ m vs, Q m vs → Q' m vs) → a.wp C Q ρ → a.wp C Q' ρ := by
  intro a
  induction a with
  | pm p args k ih => intro Q Q' ρ h ⟨vs, v, h1, h2, h3⟩; exact ⟨vs, v, h1, h2, ih h h3⟩
  | cl f args m k ih => intro Q Q' ρ h ⟨vs, v, h1, h2, h3, h4⟩; exact ⟨vs, v, h1, h2, h3, ih h h4⟩
  | ite c a b iha ihb => intro Q Q' ρ h ⟨x, h1, h2, h3⟩; exact ⟨x, h1, fun e => iha h (h2 e), fun e => ihb h (h3 e)⟩
  | out m es => intro Q Q' ρ h ⟨vs, h1, h2⟩; exact ⟨vs, h1, h _ _ h2⟩
  | jn m a k iha ihk =>
    intro Q Q' ρ h h1
    refine iha (fun m' vs h2 => ?_) h1
    split
    · rename_i e; rw [if_pos e] at h2; exact ihk h h2
    · rename_i e; rw [if_neg e] at h2; exact h _ _ h2
  | lp m init body ih =>
    intro Q Q' ρ h ⟨vs, h1, n, h2⟩
    refine ⟨vs, h1, n, ?_⟩
    clear h1
    induction n generalizing vs with
    | zero => exact h2
    | succ n ihn =>
      refine ih (fun m' vs' h3 => ?_) h2
      split
      · rename_i e; rw [if_pos e] at h3; exact ihn _ h3
      · rename_i e; rw [if_neg e] at h3; exact h _ _ h3

end Go.Proofs.YteleedlkdadogaaGreat.Fw
