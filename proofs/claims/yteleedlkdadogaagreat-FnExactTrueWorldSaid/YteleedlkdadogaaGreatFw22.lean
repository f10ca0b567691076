/- From a law's pure word to its row. -/
import Derived.Test.YteleedlkdadogaaGreatFw21
import Derived.Carry
namespace Go.Proofs.YteleedlkdadogaaGreat.Fw
open Go.RowKit Go.ChangeShapes Go.WideShapes Go.ChangeAt

def argCk (P : Program) (t : TypeId) (sh : Sh) : Bool :=
  shCk P 60 t sh && P.readableRec t && Nat.blt t P.types.size && (if sh.isSt then (match P.underlying t with | some (.struct _) => true | _ => false) else true)

def argsCk (P : Program) : List TypeId → List Sh → Bool
  | [], [] => true
  | t :: ts, sh :: shs => argCk P t sh && argsCk P ts shs
  | _, _ => false

def WtAll : List Sh → List V → Prop
  | [], [] => True
  | s :: ss, v :: vs => Wt s v ∧ WtAll ss vs
  | _, _ => False

section
variable {H : Type} {enc : TypeId × Value → H} {P : Program} {w : World}

theorem shCk_cells {n : Nat} {t : TypeId} {sh : Sh} (h : shCk P (n + 1) t sh = true) (hs : sh.isSt = false) {v : Value} {r : Reach} {base : Nat} (hv : Value.okWide P w r base t v) : v.cells.toList = [v] := by
  simp only [shCk] at h
  split at h
  · rename_i k hu; obtain ⟨_, rfl⟩ := okWide_int hu hv; rfl
  · rename_i hu; obtain ⟨_, rfl⟩ := okWide_bool hu hv; rfl
  · rename_i hu; obtain ⟨_, rfl⟩ := okWide_string hu hv; rfl
  · rename_i e hu; obtain ⟨_, _, _, rfl⟩ := okWide_slice hu hv; rfl
  · simp only [Bool.and_eq_true] at h; rw [hs] at h; simp at h
  · cases h

theorem arg_rd {t : TypeId} {sh : Sh} (h : argCk P t sh = true) {v : Value} {d : DataW H} {p : List MemPlace} {base : Nat} {spare : Nat → Bool} {held : Bool} (ht : DataW.Trod enc P w base spare held t v d p) {r : Reach} {b : Nat} (hv : Value.okWide P w r b t v) :
    ∃ u, ArgOk w sh u v ∧ Wt sh u := by
  simp only [argCk, Bool.and_eq_true] at h
  obtain ⟨fuel, hf⟩ := ht
  obtain ⟨u, h1, h2⟩ := trod_rd h.1.1.1 hf
  refine ⟨u, ?_, h2⟩
  unfold ArgOk
  split
  · rename_i hst
    have h3 := h.2
    rw [if_pos hst] at h3
    split at h3
    · rename_i F hu
      obtain ⟨cs, rfl, _⟩ := okWide_struct hu hv
      exact ⟨cs.toList, by simp, h1⟩
    · cases h3
  · rename_i hst
    rw [shCk_cells h.1.1.1 (by simpa using hst) hv] at h1
    exact h1

theorem args_rd : ∀ {ts : List TypeId} {shs : List Sh} {vs : List Value} {ds : List (DataW H)} {p : List MemPlace} {r : Reach} {b : Nat}, argsCk P ts shs = true → DataW.TrodAll enc P w 0 (fun _ => true) true ts vs ds p →
    (∀ (j : Nat) t v, ts[j]? = some t → vs[j]? = some v → Value.okWide P w r b t v) → ds.length = shs.length ∧ ∃ us, argsOk w shs us vs ∧ WtAll shs us
  | [], [], vs, ds, p, r, b, _, ht, _ => by
    obtain ⟨rfl, rfl, rfl⟩ := trodAll_nil ht
    exact ⟨rfl, [], trivial, trivial⟩
  | t :: ts, sh :: shs, vs, ds, p, r, b, h, ht, hv => by
    simp only [argsCk, Bool.and_eq_true] at h
    obtain ⟨v, vs', d, ds', p1, q1, rfl, rfl, rfl, h1, h2⟩ := trodAll_cons ht
    obtain ⟨u, hu, hw⟩ := arg_rd h.1 h1 (hv 0 t v rfl rfl)
    obtain ⟨hl, us, hus, hws⟩ := args_rd h.2 h2 (fun j t v e1 e2 => hv (j + 1) t v (by simpa using e1) (by simpa using e2))
    exact ⟨by simp [hl], u :: us, ⟨hu, hus⟩, hw, hws⟩
  | [], _ :: _, _, _, _, _, _, h, _, _ => by cases h
  | _ :: _, [], _, _, _, _, _, h, _, _ => by cases h

theorem args_back (hl : laidOutB P = true) : ∀ {ts : List TypeId} {shs : List Sh} {vs : List Value} {ds : List (DataW H)} {p : List MemPlace} {w' : World}, argsCk P ts shs = true → DataW.TrodAll enc P w 0 (fun _ => true) true ts vs ds p → Below w.heap.size w w' →
    DataW.TrodAll enc P w' 0 (fun b => decide (b < w.heap.size)) true ts vs ds p
  | [], [], vs, ds, p, w', _, ht, _ => by
    obtain ⟨rfl, rfl, rfl⟩ := trodAll_nil ht
    exact trodAll_mk0
  | t :: ts, sh :: shs, vs, ds, p, w', h, ht, hb => by
    simp only [argsCk, Bool.and_eq_true] at h
    obtain ⟨v, vs', d, ds', p1, q1, rfl, rfl, rfl, h1, h2⟩ := trodAll_cons ht
    have h3 := h.1
    simp only [argCk, Bool.and_eq_true] at h3
    have lt : ∀ x ∈ p1, x.block < w.heap.size := by obtain ⟨m, hm⟩ := h1; exact DataW.trod_lt m _ _ _ hm
    exact trodAll_cons_mk (Below.trod hl h3.1.1.2 (Nat.le_of_ble_eq_true h3.1.2) h1 hb lt) (args_back hl h.2 h2 hb)
  | [], _ :: _, _, _, _, _, h, _, _ => by cases h
  | _ :: _, [], _, _, _, _, h, _, _ => by cases h

/-- A law that answers true at whatever it is handed. -/
theorem contract_of_law (hl : laidOutB P = true) {f : FuncId} {fn : Func} {shs : List Sh} {tb : TypeId} (hck : argsCk P fn.params.toList shs = true) (hr : fn.resultTypes = #[tb]) (hb : P.underlying tb = some .bool) {s : ChangeSpec} (hsv : s.vars = [])
    (hs : ∀ ds : List (DataW H), ds.length = shs.length → s.fn H ds = { results := [.lit (.bool true)], args := ds })
    (law : ∀ us, WtAll shs us → SoundAt P f shs [.bool] us [.b true]) {W : World} {b : Nat} {args : Array Value} {ds gs : List (DataW H)} {before : List MemPlace}
    (hval : ∀ (j : Nat) t v, fn.params[j]? = some t → args[j]? = some v → Value.okWide P W .any b t v) (hW : DataW.Whole enc P fn.params.toList s.vars false W args.toList ds gs before) :
    Calls P f args W fun e W' => ∃ v, e = .returned v ∧ s.post enc P fn false true false false W args v W' := by
  have hW' := hW
  obtain ⟨p, q, hA, hV, rfl, hfz, hnd⟩ := hW
  rw [hsv] at hV
  obtain ⟨rfl, rfl⟩ := trodVars_none hV
  obtain ⟨hlen, us, hus, hwt⟩ := args_rd hck hA (fun j t v e1 e2 => hval j t v (by simpa using e1) (by simpa using e2))
  have hc := law us hwt W args.toList (fun _ _ => []) hus
  have ha : args.toList.toArray = args := by simp
  rw [ha] at hc
  refine hc.mono fun e W' he => ?_
  obtain ⟨L', vals, rfl, hleft, hres⟩ := he
  have hv : vals = [.bool true] := by
    match vals, hres with
    | [a], hres =>
      obtain ⟨c, h1, x, h2, h3⟩ := hres.1
      cases h1; cases h2; rw [h3]
  subst hv
  have bel : Below W.heap.size W W' := ⟨hleft.env.os, hleft.env.tape, hleft.env.output, hleft.size, fun k hk => (hleft.old k hk).1⟩
  have hsf := hs ds hlen
  have hargs := args_back hl hck hA bel
  refine ⟨_, rfl, ds, [], _, [], p, [], hW', ?_, ?_, ?_, bel.frame _, fun h => by cases h⟩
  · rw [List.append_nil, hsf, hr]
    exact trodAll_mk1 (shut_bool hb _)
  · rw [List.append_nil, hsf]
    exact hargs
  · rw [List.append_nil, hsf, hsv]
    rfl

end
end Go.Proofs.YteleedlkdadogaaGreat.Fw
