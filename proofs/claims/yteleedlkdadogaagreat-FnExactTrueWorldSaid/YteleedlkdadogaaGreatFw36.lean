/- Calls that change a slice within an element of an owned one. -/
import Derived.Test.YteleedlkdadogaaGreatFw33
namespace Go.Proofs.YteleedlkdadogaaGreat.Fw
open Go.RowKit

/-- The leaf of a struct at a place. -/
def leafIs (e : Sh) (off : Nat) (s : Sh) : Bool := match e.leaf off with | some l => l.beq s | none => false

def stepCallEl (n id : Nat) (S : Nat → Option Sg) (sl : Nat → SV) (ch : Nat → Option Ch) (f : Nat) (args : List Operand) : Option Res :=
  match S f, args with
  | some (.w (.own s true :: ps) rs), .tmp t :: ys => (match sl t with
    | .cv (.el c ver esz i off _ _ _) => (match ch c, openW ch sl (1 + s.sz) ps ys with
      | some (.arr ver' e et q), some (es, []) =>
        if Nat.beq ver ver' && (Nat.beq esz e.sz && (e.isSt && (!s.isSt && (!(Nat.beq c 0) && (leafIs e off s && (Nat.beq (backsN ps) 0 && ((kdAllCh id (n + 1) (rs.map Rk.kd)).isEmpty && (!(rs.any Rk.isRo) && rdsOk [] true sl ps ys)))))))) then
          some ⟨[.pm .lget [q, i], .cl f (.pj (.v n) off :: es) (rs.length + 1), .pm (.lsetr off) [q, i, .tc (.v (n + 1 + rs.length)) .tn]], [(c, .arr (ver + 1) e et (.v (n + 1 + (rs.length + 1))))], resSV (kdAll id (n + 1) (rs.map Rk.kd))⟩
        else none
      | _, _ => none)
    | _ => none)
  | _, _ => none

theorem Own.one {w : World} {L : Nat → List Nat} {s : Sh} {v : V} {cs : List Value} {p : List Nat} (hs : s.isSt = false) (h : Own w L s v cs p) : cs.length = 1 := by
  have := h.length
  cases s <;> first | exact this | cases hs

theorem backs0 {w w' : World} {L : Nat → List Nat} {lab : Nat → Nat → List Nat} : ∀ {ps : List Pk} {k : Nat} {as : List Value} {us : List V}, backsN ps = 0 → backsOk w w' L lab k ps as us → us = []
  | [], _, [], [], _, _ => rfl
  | [], _, [], _ :: _, _, h => h.elim
  | [], _, _ :: _, _, _, h => by simp [backsOk] at h
  | _ :: _, _, [], _, _, h => by simp [backsOk] at h
  | p :: ps, k, a :: as, us, h0, h => by
    simp only [backsN] at h0
    simp only [backsOk] at h
    by_cases hb : p.isBack = true
    · rw [if_pos hb] at h0; omega
    · rw [if_neg hb] at h h0; exact backs0 (by omega) h

theorem kdsOk_lenU {w : World} {S : Nat → Prop} {L : Nat → List Nat} {lab : Nat → Nat → List Nat} : ∀ {ks : List Kd} {k : Nat} {us : List V} {vals : List Value}, kdsOk w S L lab k ks us vals → us.length = ks.length
  | [], _, [], [], _ => rfl
  | _ :: _, _, _ :: _, _ :: _, h => by have := kdsOk_lenU h.2; simp [this]
  | [], _, _ :: _, _, h => by simp [kdsOk] at h
  | [], _, [], _ :: _, h => by simp [kdsOk] at h
  | _ :: _, _, [], _, h => by simp [kdsOk] at h
  | _ :: _, _, _ :: _, [], h => by simp [kdsOk] at h

section
variable {x : Fx} {Γ : G} {ρ : List V} {a : Act} {w : World} {g : Gh} {sl : Nat → SV} {ch : Nat → Option Ch} {o : Oper} {res : Res}

theorem suffix_inj {α : Type} {q q' s s' : List α} (h : q ++ s = q' ++ s') (hl : s.length = s'.length) : q = q' ∧ s = s' := by
  have hlen : q.length = q'.length := by have := congrArg List.length h; simp at this; omega
  exact List.append_inj h hlen

theorem good_callEl {S : Nat → Option Sg} (hv : Vw x Γ ρ a w g sl ch) {n id f : Nat} {args : Array Operand} {ts : Array TypeId} (ho : o.op = .call { callee := .value (.func f), args := args, argTypes := ts })
    (hr : stepCallEl n id S sl ch f args.toList = some res) (he : EmsOk (CC x.P S) ρ n res.ems) : Good x ρ a w g o res := by
  unfold stepCallEl at hr
  split at hr
  · rename_i s ps rs t ys hS hargs0
    split at hr
    · rename_i c ver esz i off e' et' y' hslt
      split at hr
      · rename_i ver' e et q es hch hop
        split at hr
        · rename_i hcond
          simp only [Bool.and_eq_true, Bool.not_eq_true', List.isEmpty_iff] at hcond
          obtain ⟨hver, hesz, hst, hsns, hc0, hleaf, hbn, hR, hro, hrd⟩ := hcond
          have hver := Nat.eq_of_beq_eq_true hver
          have hesz := Nat.eq_of_beq_eq_true hesz
          have hbn := Nat.eq_of_beq_eq_true hbn
          have hc0 : c ≠ 0 := by intro e0; subst e0; simp at hc0
          subst hver; subst hesz
          have hleaf' : e.leaf off = some s := by
            unfold leafIs at hleaf
            split at hleaf
            · rename_i l hl; rw [hl, Sh.beq_eq hleaf]
            · cases hleaf
          cases hr
          obtain ⟨⟨as1, v1, hd1, hev1, hn1⟩, ⟨vs, us, hd, ⟨hcall, hsound⟩, hlen, hρ⟩, ⟨as2, v2, hd2, hev2, hn2⟩, _⟩ := he
          rw [hS] at hsound
          -- the element
          have hel := hv.sl t
          rw [hslt] at hel
          obtain ⟨hone, hpast, hlive⟩ := hel
          obtain ⟨vc, valc, hioc, hq, hgv, hown⟩ := hv.chok hch
          obtain ⟨⟨_, _, _⟩, b, o0, len, cap, j, hio, hSb, hi, hcell⟩ := hlive hgv
          rw [hioc] at hio
          cases hio
          obtain ⟨u1, u2, k1, k2, rfl⟩ := denL_two hd1
          rw [hq] at k1; cases k1
          rw [hi] at k2; cases k2
          obtain ⟨xs, ad, len', cap', rfl, hcs, hlx, h3, h4, hor⟩ := hown
          simp only [List.cons.injEq, Value.slice.injEq, and_true] at hcs
          obtain ⟨rfl, rfl, rfl⟩ := hcs
          simp only [Pm.ev] at hev1
          rw [if_pos (by omega)] at hev1
          simp only [Int.toNat_natCast] at hev1
          rcases hor with ⟨hno, _⟩ | ⟨gb, ko, cur, ha, hLg, hh, hsz, hall⟩
          · cases hno
          cases ha
          have hown1 := hall j v1 hev1
          obtain ⟨fs, rfl⟩ : ∃ fs, v1 = .t fs := by
            have : Rd w (fun _ => True) e v1 _ := hown1.rd (fun _ _ _ => trivial)
            exact this.isSt_t hst
          obtain ⟨hchain, hfl, hleaves⟩ := hown1.leaves hst
          obtain ⟨u0, d0, hu0, hd0, how0⟩ := hleaves off s hleaf'
          have hoff := leaf_lt' hleaf'
          have hd0' : d0 = a.tmps.getD t undef := by
            obtain ⟨hd0, _⟩ := take_drop_get hd0
            rw [cell_of_row w b _ cur et (0, 0) hh] at hcell
            simp only [Array.getElem?_toList] at hd0
            have e1 : cur[o0 + j * e.sz + off]? = some d0 := hd0
            rw [e1] at hcell
            exact Option.some.inj hcell
          subst hd0'
          let kk := e.sz - 1 - off
          let p : List Nat := kk :: j :: [c]
          let L0 : Nat → List Nat := fun b => if (g.L b).drop ((g.L b).length - 3) = p then (g.L b).take ((g.L b).length - 3) ++ [1] else []
          have hhit : ∀ b q, g.L b = q ++ p → L0 b = q ++ [1] := by
            intro b q hb
            have hlen3 : (q ++ p).length - 3 = q.length := by simp [p]
            simp only [L0, hb, hlen3]
            rw [if_pos (by simp)]
            simp
          have hmiss : ∀ b, L0 b ≠ [] → ∃ q, g.L b = q ++ p := by
            intro b hb
            simp only [L0] at hb
            split at hb
            · rename_i hp
              exact ⟨_, by rw [← hp]; exact (List.take_append_drop _ _).symm⟩
            · exact absurd rfl hb
          have hnil : ∀ b, (g.L b).getLast? ≠ some c → L0 b = [] := by
            intro b hb
            by_cases h0 : L0 b = []
            · exact h0
            · obtain ⟨q, hq'⟩ := hmiss b h0
              exact absurd (by rw [hq']; simp [p]) hb
          have hhi : ∀ b, w.heap.size ≤ b → L0 b = [] := fun b hb => hnil b (by rw [hv.rel.high b hb]; simp)
          let Rg : Nat → Prop := fun b => b < w.heap.size ∧ L0 b = []
          have hst0 : ∀ b, Src.st.S x g b → Rg b := by
            intro b hb
            refine ⟨Src.lt hv .st b hb, hnil b ?_⟩
            rcases hb with hb | hb
            · rw [(hv.st b (x.sub b hb)).2]; simp
            · rw [hb]; simp; omega
          obtain ⟨vs', hvs, hargs⟩ := openW_ok hv hst0 (L0 := L0) (M := []) (ro := true) (fun d h => nomatch h) (k := 1) (lab := kdLab 1 (.val s :: ps.map Pk.kd)) hop (fun d k j hm => by cases hm) hrd (fun i j => by rw [Nat.add_comm 1 i]; rfl)
          simp only [denL, E.den, hn1, hu0, hvs] at hd
          cases hd
          intro K Q hK
          have hrun : (execOp a.eval o).run x.P w = .ok (.enter f (args.map a.eval)) w := by
            simp only [execOp, ho, resolve, Act.eval]
            simp [Deferred.ofValue, invoke, run_callFunc hcall]
          unfold Oper.wp
          rw [hrun]
          let lab : Nat → Nat → List Nat := fun k j => if k < rs.length then kdLab id (rs.map Rk.kd) k j else p
          have hc := hsound w (args.toList.map a.eval) Rg L0 lab (fun b hb => hb) hhi (by
            rw [hargs0]
            refine ⟨?_, hargs⟩
            simp only [Pk.kd, KdOk, ResOk]
            rw [if_neg (by rw [hsns]; simp)]
            exact how0.frame (fun b q hb => ⟨rfl, hhit b q hb⟩))
          have hargs' : (args.toList.map a.eval).toArray = args.map a.eval := by
            apply Array.ext'
            simp
          rw [hargs'] at hc
          refine hc.mono (fun e1 w' he => ?_)
          obtain ⟨L', vals, us1, us2, rfl, rfl, hleft, hress, hbacks⟩ := he
          rw [hargs0] at hbacks
          simp only [List.map_cons, backsOk, Pk.isBack, if_true] at hbacks
          cases us2 with
          | nil => exact hbacks.elim
          | cons uf us2 =>
          obtain ⟨hback, hbrest⟩ := hbacks
          have := backs0 hbn hbrest
          subst this
          simp only [BackOk, ResOk] at hback
          rw [if_neg (by rw [hsns]; simp)] at hback
          have hlabp : lab rs.length 0 = p := by simp only [lab]; rw [if_neg (by omega)]
          rw [hlabp] at hback
          let T : Nat → Prop := keys [(c, Ch.arr (ver + 1) e et (.v (n + 1 + (rs.length + 1))))]
          let g' : Gh := { L := fun b => if b < w.heap.size ∧ L0 b = [] then g.L b else L' b, io := g.io, gv := fun d => if d = c then g.gv d + 1 else g.gv d }
          have hLne : ∀ b, L' b ≠ [] → g'.L b = L' b := by
            intro b hb
            simp only [g']
            rw [if_neg (fun h => hb (hleft.old b h.1 h.2).2)]
          have hkeep : ∀ b, b < w.heap.size → L0 b = [] → w'.heap[b]? = w.heap[b]? ∧ g'.L b = g.L b := fun b hb h0 => ⟨(hleft.old b hb h0).1, by simp only [g']; rw [if_pos ⟨hb, h0⟩]⟩
          have hT : ∀ d, T d ↔ d = c := keys_one c _
          have fr : Fr T w g w' g' := by
            refine ⟨fun h => hc0 ((hT 0).1 h).symm, fun b hb hbc => hkeep b hb (hnil b (fun hl => hbc c hl ((hT c).2 rfl))), fun _ _ h => h, fun _ _ => rfl, fun d hd => ?_, fun d hd => ?_, hleft.size, fun b hb => ?_, hleft.env⟩
            · simp only [g']; rw [if_neg (fun e1 => hd ((hT d).2 e1))]
            · simp only [g']; rw [if_pos ((hT d).1 hd)]; omega
            · simp only [g']
              rw [if_neg (by have := hleft.size; omega)]
              exact hleft.high b hb
          have hown' : ∀ (c : Nat) (sh : Sh) (v : V) (cs : List Value), Own w' L' sh v cs [c] → Own w' g'.L sh v cs [c] := fun c sh v cs how => how.frame (fun b q hb => ⟨rfl, by rw [hLne b (by rw [hb]; simp), hb]⟩)
          have hkl := kdsOk_lenU hress
          simp only [List.length_map] at hkl
          have hρ1 : ∀ j, j < rs.length + 1 → ρ[n + 1 + j]? = (us1 ++ [uf])[j]? := fun j hj => hρ j hj
          obtain ⟨h1, h2⟩ := kds_all (x := x) (ρ := ρ) (n := n + 1) (id := id) (k := 0) (g' := g') (lab := lab) (us := us1) (vals := vals) (S' := fun b => Rg b ∨ (L' b).getLast? = some 0) (L' := L') (w' := w') hress (fun k' j hk' => by rw [Nat.zero_add]; simp only [lab]; rw [if_pos (by simpa using hk')])
            (fun j hj => by rw [hρ1 j (by simp at hj; omega), List.getElem?_append_left (by simp at hj; omega)])
            (fun s0 hm => by
              exfalso
              obtain ⟨r0, hr0, e0⟩ := List.mem_map.1 hm
              cases r0 with
              | ro s1 =>
                have : rs.any Rk.isRo = true := List.any_eq_true.2 ⟨_, hr0, rfl⟩
                rw [this] at hro; cases hro
              | val s1 => cases e0
              | pt s1 ty => cases e0)
            hown' (fun b c hb => by rw [hLne b (by rw [hb]; simp), hb])
            (fun d h hm => by rw [hR] at hm; cases hm) (fun d h hm => by rw [hR] at hm; cases hm)
            (fun d v ⟨s0, ty, kp, hm, hne⟩ _ => by
              exfalso
              obtain ⟨r, _, hr2⟩ := List.mem_map.1 hm
              cases r <;> simp [Rk.kd] at hr2
              exact hne hr2.2.2)
          refine hK _ _ g' fr (fun d h hl => ?_) (resSV_ok h1)
          obtain ⟨rfl, rfl⟩ := look_one hl
          -- the new chunk
          have huf : ρ[n + 1 + rs.length]? = some uf := by
            rw [hρ1 rs.length (by omega), List.getElem?_append_right (by omega)]
            simp [hkl]
          obtain ⟨w1, w2, w3, m1, m2, m3, rfl⟩ := denL_three hd2
          rw [hq] at m1; cases m1
          rw [hi] at m2; cases m2
          simp only [E.den, huf, Option.some.injEq] at m3
          subst m3
          simp only [Pm.ev] at hev2
          rw [if_pos (by omega)] at hev2
          simp only [Int.toNat_natCast, hev1, List.length_singleton] at hev2
          rw [if_pos (by omega)] at hev2
          cases hev2
          refine ⟨_, _, hioc, hn2, by simp only [g', if_true, hgv], ?_⟩
          have hjx : j < xs.length := (List.getElem?_eq_some_iff.1 hev1).1
          have hL0b : L0 b = [] := by
            by_cases h0 : L0 b = []
            · exact h0
            · obtain ⟨q', hq'⟩ := hmiss b h0
              rw [hLg] at hq'
              have := congrArg List.length hq'
              simp [p] at this
          have hbsz : b < w.heap.size := last_lt hv.rel.high (c := d) (by rw [hLg]; rfl)
          have hbk := hkeep b hbsz hL0b
          refine ⟨_, _, _, _, rfl, rfl, by simpa using hlx, h3, h4, .inr ⟨b, o0, cur, rfl, by rw [hbk.2]; exact hLg, hbk.1.trans hh, hsz, fun i0 x0 hx0 => ?_⟩⟩
          have hfrI : ∀ i1, i1 ≠ j → ∀ b q, g.L b = q ++ (i1 :: [d]) → w'.heap[b]? = w.heap[b]? ∧ g'.L b = q ++ (i1 :: [d]) := by
            intro i1 hne b q hb
            have h0 : L0 b = [] := by
              by_cases h0 : L0 b = []
              · exact h0
              · obtain ⟨q', hq'⟩ := hmiss b h0
                rw [hb] at hq'
                have := suffix_inj (q := q) (s := i1 :: [d]) (q' := q' ++ [kk]) (s' := j :: [d]) (by rw [hq']; simp [p]) rfl
                simp only [List.cons.injEq, and_true] at this
                exact absurd this.2 hne
            have := hkeep b (last_lt hv.rel.high (c := d) (by rw [hb]; simp)) h0
            exact ⟨this.1, by rw [this.2, hb]⟩
          by_cases hij : i0 = j
          · subst hij
            rw [List.getElem?_set_self hjx] at hx0
            cases hx0
            have hdl := hown1.length
            refine Own.ofLeaves hchain (by rw [show (1 : Nat) = [uf].length from rfl, splice_length (by simp; omega), hfl]) hdl (fun j2 s2 v2 d2 e1 e2 e3 => ?_)
            rw [show (1 : Nat) = [uf].length from rfl, splice_get (by simp; omega)] at e2
            by_cases hj2 : j2 = off
            · subst hj2
              rw [if_neg (by omega), if_pos (by simp)] at e2
              simp only [Nat.sub_self, List.getElem?_cons_zero, Option.some.injEq] at e2
              subst e2
              rw [hleaf'] at e1; cases e1
              rw [hd0] at e3; cases e3
              exact hback.frame (fun b q hb => ⟨rfl, by rw [hLne b (by rw [hb]; simp [p]), hb]⟩)
            · have e2' : fs[j2]? = some v2 := by
                by_cases hlt : j2 < off
                · rw [if_pos hlt] at e2; exact e2
                · rw [if_neg hlt, if_neg (by simp; omega)] at e2; exact e2
              obtain ⟨v3, d3, k1, k2, k3⟩ := hleaves j2 s2 e1
              rw [e2'] at k1; cases k1
              rw [e3] at k2; cases k2
              refine k3.frame (fun b q hb => ?_)
              have h0 : L0 b = [] := by
                by_cases h0 : L0 b = []
                · exact h0
                · obtain ⟨q', hq'⟩ := hmiss b h0
                  rw [hb] at hq'
                  have := suffix_inj (q := q) (s := (e.sz - 1 - j2) :: i0 :: [d]) (q' := q') (s' := p) hq' rfl
                  simp only [p, kk, List.cons.injEq, and_true] at this
                  have hj2l := leaf_lt' e1
                  omega
              have := hkeep b (last_lt hv.rel.high (c := d) (by rw [hb]; simp)) h0
              exact ⟨this.1, by rw [this.2, hb]⟩
          · rw [List.getElem?_set_ne (fun h => hij h.symm)] at hx0
            exact (hall i0 x0 hx0).frame (fun b q hb => hfrI i0 hij b q hb)
        · cases hr
      · cases hr
    · cases hr
  · cases hr

end
end Go.Proofs.YteleedlkdadogaaGreat.Fw
