/- Every operation; regions in the order of their text. -/
import Derived.Test.YtckonoejmjblfaaGreatEvT
import Derived.Laws.RangeString
import Derived.TacticsIn
import Derived.OrdersIn
import Derived.LoopNIn
import Derived.RangeFuncLeaves
import Derived.RangeFuncRecord
import Derived.RangeFuncNested
set_option linter.unusedVariables false
set_option linter.unusedSimpArgs false
namespace Go.Proofs.YtckonoejmjblfaaGreat.Ev
open Go Go.RowKit

section
variable {ql : Prop} {P : Program} {Γ : Ctx}

theorem call_sound {B : Nat} {s s' : St} {a : Act} (cfg : Cfg) {call : Caller} (hc : Sound P ql call) (hI : Inv Γ B s a) {dst : Option Nat} {f : Nat} {caps : List Nat} {args : List V} {vals : List Value}
    (ha : All2 (RV Γ) vals args) (hcap : ∀ o ∈ caps, o < Γ.ng) (h : callA cfg call s dst f caps args = some s') :
    (Enters P f ∧ Calls P f (vals.toArray ++ (caps.map fun o => ptr (Γ.glo o) 0).toArray) Γ.w fun e w' => ∃ (Γ' : Ctx) (v : Value), e = .returned v ∧ Γ'.w = w' ∧ Step ql B Γ Γ' ∧ Inv Γ' B s' (a.put dst v)) ∨
    ∃ v, (callFunc f (vals.toArray ++ (caps.map fun o => ptr (Γ.glo o) 0).toArray)).run P Γ.w = .ok (.value v) Γ.w ∧ ∃ (Γ' : Ctx), Γ'.w = Γ.w ∧ Step ql B Γ Γ' ∧ Inv Γ' B s' (a.put dst v) := by
  unfold callA at h
  simp only [Option.bind_eq_some_iff] at h
  obtain ⟨cs0, hcs0, cs, hcs, h⟩ := h
  have h1 : All2 (fun v c => RC Γ.calm v c) vals cs := by
    split at hcs
    · exact expoFs_sound (comps_sound ha hcs0) hcs
    · exact expoCs_sound (comps_sound ha hcs0) hcs
  have h2 : All2 (fun v c => RC Γ.calm v c) (caps.map fun o => ptr (Γ.glo o) 0) (caps.map fun o => C.w (.glo o 0)) := by
    refine ⟨by simp, fun i v c hv hc => ?_⟩
    rw [List.getElem?_map, Option.map_eq_some_iff] at hv hc
    obtain ⟨o, ho, rfl⟩ := hv
    obtain ⟨o', ho', rfl⟩ := hc
    rw [ho] at ho'
    cases ho'
    exact ⟨rfl, hcap o (List.mem_of_getElem? ho)⟩
  have h3 := h1.append h2
  have harr : vals.toArray ++ (caps.map fun o => ptr (Γ.glo o) 0).toArray = (vals ++ caps.map fun o => ptr (Γ.glo o) 0).toArray := by simp
  rw [harr]
  split at h
  · rw [Option.bind_eq_some_iff] at h
    obtain ⟨r, hr, h⟩ := h
    split at h
    · rename_i hlen
      cases h
      obtain ⟨k, k2⟩ := hc _ _ _ _ _ hr
      have hgl : r.2 = s.gl := by
        have := (k2 (Nat.le_refl _)).1
        rwa [List.take_of_length_le (by omega), List.take_of_length_le (Nat.le_refl _)] at this
      rcases k with ⟨k1, k3⟩ | k
      · refine .inl ⟨k1, (k3 Γ.calm _ (hI.forCall h3 s.gl.length)).mono ?_⟩
        rintro e w' ⟨Γ', v, rfl, rfl, st, hI'⟩
        rw [hgl] at hI'
        obtain ⟨q1, q2, q3⟩ := hI.back st hI'
        exact ⟨Γ.back Γ', v, rfl, rfl, q1, q2.put dst q3⟩
      · obtain ⟨v, hv, hI'⟩ := k Γ.calm _ (hI.forCall h3 s.gl.length)
        rw [hgl] at hI'
        obtain ⟨q1, q2, q3⟩ := hI.back (Step.refl _ _) hI'
        exact .inr ⟨v, hv, Γ.back Γ.calm, rfl, q1, q2.put dst q3⟩
    · cases h
  · rw [Option.map_eq_some_iff] at h
    obtain ⟨r, hr, rfl⟩ := h
    obtain ⟨k, _⟩ := hc _ _ _ _ _ hr
    rcases k with ⟨k1, k3⟩ | k
    · refine .inl ⟨k1, (k3 Γ.calm _ (hI.forCall h3 s.ro)).mono ?_⟩
      rintro e w' ⟨Γ', v, rfl, rfl, st, hI'⟩
      obtain ⟨q1, q2, q3⟩ := hI.back st hI'
      have := q2.put dst q3
      exact ⟨Γ.back Γ', v, rfl, rfl, q1, by cases dst <;> exact this⟩
    · obtain ⟨v, hv, hI'⟩ := k Γ.calm _ (hI.forCall h3 s.ro)
      obtain ⟨q1, q2, q3⟩ := hI.back (Step.refl _ _) hI'
      have := q2.put dst q3
      exact .inr ⟨v, hv, Γ.back Γ.calm, rfl, q1, by cases dst <;> exact this⟩

theorem op_sound {B : Nat} {s s' : St} {a : Act} (cfg : Cfg) (fid : Nat) {call : Caller} (hc : Sound P ql call) (hI : Inv Γ B s a) {o : Oper} (h : opA P cfg fid call s o = some s')
    {K : Act → World → Prop} {Q : Exit → Act → World → Prop} (hK : ∀ Γ' a', Step ql B Γ Γ' → Inv Γ' B s' a' → K a' Γ'.w) : o.wp P a Γ.w K Q := by
  have value : ∀ {Γ' : Ctx} {u : Value} {op : Op}, (execOp a.eval o).run P Γ.w = .ok (.value u) Γ'.w → Step ql B Γ Γ' → Inv Γ' B s' (a.put o.dst u) → o.wp P a Γ.w K Q := by
    intro Γ' u op hr h1 h2
    unfold Oper.wp
    rw [hr]
    exact hK _ _ h1 h2
  have calm : ∀ {x : V}, calmA P s o.op = some x → s' = s.put o.dst x → o.wp P a Γ.w K Q := by
    intro x hx hs
    obtain ⟨Γ', u, hr, hu, hg⟩ := calm_sound hI hx
    subst hs
    exact value (op := o.op) hr (hI.step_of_grow hg) ((hI.grow hg).put _ hu)
  have calm' : (calmA P s o.op).map (fun v => s.put o.dst v) = some s' → o.wp P a Γ.w K Q := by
    intro h
    rw [Option.map_eq_some_iff] at h
    obtain ⟨x, hx, rfl⟩ := h
    exact calm hx rfl
  obtain ⟨dst, op, type, pos, after, guard⟩ := o
  simp only at *
  have newvar : ∀ (e : TypeId) (z : Value) (c : C) (d : Nat), RC Γ z c → c.known = true → dst = some d →
      (if cfg.esc fid d then (lodges c.cells).map fun cs => { (s.put dst (.c (.w (.glo s.gl.length 0)))) with gl := s.gl ++ [cs] }
        else match look s.bx d, look s.it d with | none, none => some { (s.put dst (.c (.w (.box d 0)))) with bx := upd s.bx d c.cells } | _, _ => none) = some s' →
      ∃ Γ', (do pure (.pointer (some (← newVar e z))) : Sem Value).run P Γ.w = .ok (ptr Γ.w.heap.size 0) Γ'.w ∧ Step ql B Γ Γ' ∧ Inv Γ' B s' (a.put dst (ptr Γ.w.heap.size 0)) := by
    intro e z c d hz hk hd h
    obtain ⟨hcell, hone⟩ := hz.cells hk
    have hr : (do pure (.pointer (some (← newVar e z))) : Sem Value).run P Γ.w = .ok (ptr Γ.w.heap.size 0) (Γ.w.alloc (.cells z.cells e (0, 0))) := by
      simp only [newVar, newRow, Sem.run_bind, run_newObj, Result.andThen_ok, Sem.run_pure]
      rfl
    split at h
    · rw [Option.map_eq_some_iff] at h
      obtain ⟨cs, hcs, rfl⟩ := h
      have hec := lodges_sound hcell hcs
      obtain ⟨q1, q2⟩ := hI.newGlo (ql := ql) (w' := Γ.w.alloc (.cells z.cells e (0, 0))) rfl rfl rfl (by show (Γ.w.heap.push _).size = _; simp) (fun g hg => Below.heap_alloc _ _ g hg) z.cells e (alloc_new _ _) cs (by rw [← hec.1, List.take_length]; exact hec) hone (lodges_free hcs)
      refine ⟨_, hr, q1, ?_⟩
      have := q2.put dst (v := ptr Γ.w.heap.size 0) (x := .c (.w (.glo s.gl.length 0))) ⟨by simp [Ctx.glo, Ctx.newGlo, ptr, hI.ng], by simp [Ctx.newGlo, hI.ng]⟩
      subst hd
      exact this
    · split at h
      · rename_i hlk hlk'
        cases h
        obtain ⟨q1, q2, q3⟩ := hI.newBox (ql := ql) d hlk hlk' z.cells e c.cells hcell hone
        refine ⟨_, hr, q1, ?_⟩
        have := q2.put dst q3
        subst hd
        exact this
      · cases h
  unfold opA at h
  split at h
  · rename_i e heq
    have heq : op = _ := heq
    subst heq
    simp only [Option.bind_eq_some_iff] at h
    obtain ⟨z, hz, d, hd, h⟩ := h
    obtain ⟨z0, hz0, hrun⟩ := run_zeroC hz
    obtain ⟨k1, k2⟩ := constC_sound (Γ := Γ) hz0
    obtain ⟨Γ', hr, h1, h2⟩ := newvar e z0 z d k1 k2 hd h
    refine value (op := .move (.tmp 0)) ?_ h1 h2
    simp only [execOp, Instr.alloc]
    rw [Sem.run_bind, Sem.run_bind, hrun, Result.andThen_ok, hr]
    rfl
  · rename_i t x heq
    have heq : op = _ := heq
    subst heq
    simp only [Option.bind_eq_some_iff] at h
    obtain ⟨d, hd, v, hv, h⟩ := h
    split at h
    · rename_i l hu hb hi
      cases h
      obtain ⟨s0, hs0, hl0, hm0⟩ : ∃ s0 : ByteArray, a.eval x = .string s0 ∧ s0.data.toList = l ∧ s0.size ≤ maxLen := by
        have := ev_sound hI hv
        generalize a.eval x = u at this
        cases this with
        | str s _ hs hl => exact ⟨s, rfl, hs, hl⟩
      have hlen : l.length ≤ maxLen := by rw [← hl0, Array.length_toList]; exact hm0
      have hs1 : s0 = ⟨l.toArray⟩ := by rw [← hl0]
      obtain ⟨q1, q2, q3⟩ := hI.newIt (ql := ql) d hb hi l hlen
      refine value (op := .move (.tmp 0)) (u := ptr Γ.w.heap.size 0) (Γ' := Γ.newBox d (.stringIter ⟨l.toArray⟩ 0)) ?_ q1 ?_
      · simp only [execOp]
        rw [hs0, Sem.run_bind, run_range_string _ _ _ hu, hs1]
        rfl
      · have := q2.put dst q3
        subst hd
        exact this
    · cases h
  · rename_i x heq
    have heq : op = _ := heq
    subst heq
    rw [Option.bind_eq_some_iff] at h
    obtain ⟨v, hv, h⟩ := h
    split at h
    · rename_i k
      rw [Option.bind_eq_some_iff] at h
      obtain ⟨p, hp, h⟩ := h
      split at h
      · rename_i hlt
        cases h
        obtain ⟨ho, _, _, hlm⟩ := hI.its k p hp
        obtain ⟨q1, q2⟩ := hI.stepIt (ql := ql) hp (p.2 + (Utf8.decode ⟨p.1.toArray⟩ p.2).2)
        obtain ⟨hpt, _⟩ := ev_sound hI hv
        refine value (op := .move (.tmp 0)) (u := .tuple #[.bool true, .int .i64 p.2, .int .i32 (Utf8.decode ⟨p.1.toArray⟩ p.2).1]) (Γ' := Γ.setIt (Γ.box k) (.stringIter ⟨p.1.toArray⟩ (p.2 + (Utf8.decode ⟨p.1.toArray⟩ p.2).2))) ?_ q1 ?_
        · have hsz : p.2 < (⟨p.1.toArray⟩ : ByteArray).size := by simpa [ByteArray.size] using hlt
          simp only [execOp]
          rw [hpt]
          simp only [ptr, Instr.next, getObj, setObj, Sem.run_bind, Sem.run, ho, Result.andThen, hsz, if_true, goInt, Ctx.setIt]
          rfl
        · have hz : RV (Γ.setIt (Γ.box k) (.stringIter ⟨p.1.toArray⟩ (p.2 + (Utf8.decode ⟨p.1.toArray⟩ p.2).2))) (.tuple #[.bool true, .int .i64 p.2, .int .i32 (Utf8.decode ⟨p.1.toArray⟩ p.2).1]) (.tup [.w (.d (.bool true)), .w (.d (.int .i64 p.2)), .w (.d (.int .i32 (Utf8.decode ⟨p.1.toArray⟩ p.2).1))]) := by
            refine ⟨_, rfl, rfl, fun i v c hv hc => ?_⟩
            match i with
            | 0 => cases hv; cases hc; exact .bool true
            | 1 => cases hv; cases hc; exact .int .i64 _
            | 2 => cases hv; cases hc; exact .int .i32 _
            | i + 3 => cases hv
          have := q2.put dst hz
          cases dst <;> exact this
      · rename_i hlt
        cases h
        obtain ⟨ho, _, _, hlm⟩ := hI.its k p hp
        obtain ⟨hpt, _⟩ := ev_sound hI hv
        refine value (op := .move (.tmp 0)) (u := .tuple #[.bool false]) (Γ' := Γ) ?_ (Step.refl _ _) ?_
        · have hsz : ¬ p.2 < (⟨p.1.toArray⟩ : ByteArray).size := by simpa [ByteArray.size] using hlt
          simp only [execOp]
          rw [hpt]
          simp [ptr, Instr.next, getObj, Sem.run, ho, hsz]
        · refine hI.put dst ?_
          refine ⟨_, rfl, rfl, fun i v c hv hc => ?_⟩
          match i with
          | 0 => cases hv; cases hc; exact .bool false
          | i + 1 => cases hv
    · cases h
  · rename_i e x heq
    have heq : op = _ := heq
    subst heq
    simp only [Option.bind_eq_some_iff] at h
    obtain ⟨v, hv, c, hcv, d, hd, h⟩ := h
    obtain ⟨k1, k2⟩ := comp_sound (ev_sound hI hv) hcv
    split at h
    · rw [Option.map_eq_some_iff] at h
      obtain ⟨ds, hds, rfl⟩ := h
      obtain ⟨hcell, hone⟩ := k1.cells k2
      have hcl := closes_sound hcell hds
      have hg := grow_fresh (Γ := Γ) (w' := Γ.w.alloc (.cells (a.eval x).cells e (0, 0))) rfl rfl rfl (by show (Γ.w.heap.push _).size = _; simp) (fun g hg => Below.heap_alloc _ _ g hg)
      have hu := hI.up_of_grow hg
      refine value (op := .move (.tmp 0)) (u := ptr Γ.w.heap.size 0) (Γ' := Γ.fresh (Γ.w.alloc (.cells (a.eval x).cells e (0, 0)))) ?_ (hI.step_of_grow hg) ((hI.grow hg).put _ ?_)
      · simp only [execOp, Instr.box, newVar, newRow, Sem.run_bind, run_newObj, Result.andThen_ok, Sem.run_pure]
        rfl
      · refine ⟨_, rfl, fun j => (a.eval x).cells.getD j undef, fun j q hj => ?_⟩
        have hlt : j < (a.eval x).cells.size := by have := hcl.1; have := (List.getElem?_eq_some_iff.1 hj).1; simp at *; omega
        have hget : (a.eval x).cells.toList[j]? = some ((a.eval x).cells.getD j undef) := by
          rw [Array.getElem?_toList, Array.getD_eq_getD_getElem?, Array.getElem?_eq_getElem hlt]
          rfl
        refine ⟨.inr (by rw [add_block]), ?_, (hcl.2 j _ q hget hj).mono hu.F⟩
        rw [add_plain, Nat.zero_add]
        show (Γ.w.alloc _).cell? _ = _
        rw [cell_of_heap (alloc_new _ _)]
        show (a.eval x).cells[j]? = some ((a.eval x).cells.getD j undef)
        rw [Array.getD_eq_getD_getElem?, Array.getElem?_eq_getElem hlt]
        rfl
    obtain ⟨Γ', hr, h1, h2⟩ := newvar e _ c d k1 k2 hd h
    refine value (op := .move (.tmp 0)) ?_ h1 h2
    simp only [execOp, Instr.box]
    rw [Sem.run_bind, hr]
    rfl
  · rename_i t ad x heq
    have heq : op = _ := heq
    subst heq
    rw [Option.bind_eq_some_iff] at h
    obtain ⟨v, hv, h⟩ := h
    split at h
    · rename_i p
      simp only [Option.bind_eq_some_iff] at h
      obtain ⟨v', hv', c, hcv, n, hn, h⟩ := h
      split at h
      · rename_i hl
        rw [Option.map_eq_some_iff] at h
        obtain ⟨s2, hs2, rfl⟩ := h
        obtain ⟨k1, k2⟩ := comp_sound (ev_sound hI hv') hcv
        obtain ⟨Γ', hr, h1, h2⟩ := store_sound (ql := ql) hI (ev_sound hI hv) k1 k2 hn hl hs2
        unfold Oper.wp
        simp only [execOp, Sem.run_bind, hr, Result.andThen_ok, Sem.run_pure, Oper.upon_skip]
        exact hK _ _ h1 (h2.put dst trivial)
      · cases h
    · cases h
  · rename_i args ts heq
    have heq : op = _ := heq
    subst heq
    split at h
    · rename_i x y t t' h1 h2
      split at h
      · rename_i htt
        subst htt
        simp only [Option.bind_eq_some_iff] at h
        obtain ⟨v, hv, v', hv', d, hd, h⟩ := h
        obtain ⟨Γ', u, hr, q1, q2⟩ := appendM_sound (ql := ql) (P := P) (ty := type) hI (ev_sound hI hv) (ev_sound hI hv') h
        rw [← hd] at q2
        have e1 : args = #[x, y] := by rw [← Array.toArray_toList (xs := args), h1]
        have e2 : ts = #[t, t] := by rw [← Array.toArray_toList (xs := ts), h2]
        subst e1
        subst e2
        refine value (op := .move (.tmp 0)) ?_ q1 q2
        simp [execOp, resolve, invoke, builtin, hr]
      · cases h
    · cases h
  · rename_i t l c heq
    have heq : op = _ := heq
    subst heq
    simp only [Option.bind_eq_some_iff] at h
    obtain ⟨vl, hvl, il, hil, vc, hvc, ic, hic, h⟩ := h
    obtain ⟨kl, e1⟩ := intOf_sound (ev_sound hI hvl) hil
    obtain ⟨kc, e2⟩ := intOf_sound (ev_sound hI hvc) hic
    obtain ⟨Γ', u, hr, q1, q2⟩ := make_sound (ql := ql) (P := P) (kl := kl) (kc := kc) hI h
    refine value (op := .move (.tmp 0)) ?_ q1 q2
    simp [execOp, e1, e2, hr]
  · rename_i args ts heq
    have heq : op = _ := heq
    subst heq
    split at h
    · rename_i x y t r h1 h2
      simp only [Option.bind_eq_some_iff] at h
      obtain ⟨v, hv, v', hv', h⟩ := h
      have e1 : args = #[x, y] := by rw [← Array.toArray_toList (xs := args), h1]
      have e2 : ts[0]? = some t := by rw [← Array.getElem?_toList, h2]; rfl
      obtain ⟨Γ', u, hr, q1, q2⟩ := copy_sound (ql := ql) (P := P) (ty := type) hI e2 (ev_sound hI hv) (ev_sound hI hv') h
      subst e1
      refine value (op := .move (.tmp 0)) ?_ q1 q2
      simp [execOp, resolve, invoke, builtin, hr]
    · cases h
  · rename_i args ts heq
    have heq : op = _ := heq
    subst heq
    split at h
    · rename_i x t h1 h2
      simp only [Option.bind_eq_some_iff] at h
      obtain ⟨v, hv, h⟩ := h
      have e1 : args = #[x] := by rw [← Array.toArray_toList (xs := args), h1]
      have e2 : ts = #[t] := by rw [← Array.toArray_toList (xs := ts), h2]
      obtain ⟨Γ', u, hr, q1, q2⟩ := clear_sound (ql := ql) (P := P) (ty := type) hI (ev_sound hI hv) h
      subst e1
      subst e2
      refine value (op := .move (.tmp 0)) ?_ q1 q2
      simp [execOp, resolve, invoke, builtin, hr]
    · cases h
  · rename_i g args ts heq
    have heq : op = _ := heq
    subst heq
    rw [Option.bind_eq_some_iff] at h
    obtain ⟨v, hv, h⟩ := h
    split at h
    · rename_i f caps
      simp only [Option.bind_eq_some_iff] at h
      obtain ⟨vs, hvs, h⟩ := h
      obtain ⟨hf, hcap⟩ := ev_sound hI hv
      have hargs : args.map a.eval = (args.toList.map a.eval).toArray := Array.toList_inj.1 (by simp)
      rcases call_sound cfg hc hI (evs_sound hI hvs) hcap h with ⟨⟨fn, hfn, hname, hbody⟩, hcalls⟩ | ⟨u, hu, Γ', hw, q1, q2⟩
      rotate_left
      · refine value (op := .move (.tmp 0)) (u := u) (Γ' := Γ') ?_ q1 q2
        rw [hw]
        simp only [execOp, resolve, hf, Deferred.ofValue, Sem.run_bind, Sem.run_pure, Result.andThen_ok, invoke, hargs]
        simpa using hu
      unfold Oper.wp
      have hr : (execOp a.eval { dst, op := .call { callee := .value g, args, argTypes := ts }, type, pos, after, guard }).run P Γ.w = .ok (.enter f ((args.toList.map a.eval).toArray ++ (caps.map fun o => ptr (Γ.glo o) 0).toArray)) Γ.w := by
        simp only [execOp, resolve, hf, Deferred.ofValue, Sem.run_bind, Sem.run_pure, Result.andThen_ok, invoke, callFunc, run_program, hfn, hargs]
        rw [if_neg (by simp [hname]), if_neg (by simp [hbody])]
        simp
      rw [hr]
      simp only [Oper.upon_enter]
      refine hcalls.mono ?_
      rintro e w' ⟨Γ', v', rfl, rfl, q1, q2⟩
      exact hK _ _ q1 q2
    · cases h
  · exact calm' h

theorem wanted_sound {B : Nat} {s : St} {a : Act} (hI : Inv Γ B s a) {ops : Array Oper} {o : Oper} {q : Bool} (h : wantedA s ops.toList o = some q) : Region.wanted o (yielded ops a.tmps) = q := by
  unfold wantedA at h
  unfold Region.wanted
  split at h
  · rename_i hg
    cases h
    simp [hg]
  · rename_i j want hg
    simp only [hg]
    rw [Option.bind_eq_some_iff] at h
    obtain ⟨d, hd, h⟩ := h
    split at h
    · rename_i b hb
      cases h
      have hv := get_sound hI d
      rw [hb] at hv
      have : yielded ops a.tmps j = some b := by
        unfold yielded
        rw [Array.getElem?_toList] at hd
        rw [hd]
        simp only [Option.bind_some]
        rw [Array.getD_eq_getD_getElem?] at hv
        cases ht : a.tmps[d]? with
        | none => rw [ht] at hv; cases hv
        | some v => rw [ht] at hv; cases hv; rfl
      rw [this]
      simp
    · rename_i hb
      cases h
      have hv := get_sound hI d
      rw [hb] at hv
      have : yielded ops a.tmps j = none := by
        unfold yielded
        rw [Array.getElem?_toList] at hd
        rw [hd]
        simp only [Option.bind_some]
        rw [Array.getD_eq_getD_getElem?] at hv
        cases ht : a.tmps[d]? with
        | none => rfl
        | some v =>
          rw [ht] at hv
          obtain ⟨vs, hv, _⟩ := hv
          simp only [Option.getD_some] at hv
          subst hv
          rfl
      rw [this]
      rfl
    · cases h

theorem step_sound {B : Nat} {s s' : St} {a : Act} (cfg : Cfg) (fid : Nat) {call : Caller} (hc : Sound P ql call) (hI : Inv Γ B s a) {ops : Array Oper} {o : Oper} (h : stepA P cfg fid call ops.toList s o = some s')
    {K : Act → World → Prop} {Q : Exit → Act → World → Prop} (hK : ∀ Γ' a', Step ql B Γ Γ' → Inv Γ' B s' a' → K a' Γ'.w) :
    if Region.wanted o (yielded ops a.tmps) then o.wp P a Γ.w K Q else K (a.put o.dst undef) Γ.w := by
  unfold stepA at h
  rw [Option.bind_eq_some_iff] at h
  obtain ⟨q, hq, h⟩ := h
  rw [wanted_sound hI hq]
  cases q with
  | true => exact op_sound cfg fid hc hI h hK
  | false =>
    simp only [Option.some.injEq] at h
    subst h
    exact hK Γ _ (Step.refl _ _) (hI.put o.dst (x := V.no) ⟨#[], rfl, All2.nil⟩)

/-- A frame of a call, or of a round of a loop over a function. -/
abbrev Fr (r : Option Nat) : Fence := { Fence.wide with round := r }
theorem wpIn_of_wp {r : Option Nat} {n : Nat} {o : Oper} {a : Act} {w : World} {K : Act → World → Prop} {Q : Exit → Act → World → Prop} (hd : ∀ c, o.op ≠ .defer c) (h : o.wp P a w K Q) : o.wpIn (Fr r) n P a w K Q := by
  refine ⟨fun _ _ => trivial, ?_⟩
  rw [Oper.semAt_eq _ _ _ hd]
  unfold Oper.wp at h
  generalize (execOp a.eval o).run P w = res at h ⊢
  unfold Oper.upon at h
  split at h
  · exact h
  · exact h
  · exact h
  · exact ⟨fun h => (by cases h), callsIn_wide.2 h⟩
  · refine ⟨fun h => (by cases h), fun c cs _ => ?_⟩
    obtain ⟨v, w', r, s⟩ := h c cs
    exact ⟨v, w', r, stepsIn_wide.2 s⟩
  · exact h
  · exact h.elim
theorem opA_defer {cfg : Cfg} {fid : Nat} {call : Caller} {s s' : St} {o : Oper} (h : opA P cfg fid call s o = some s') : ∀ c, o.op ≠ .defer c := by
  intro c e
  obtain ⟨dst, op, type, pos, after, guard⟩ := o
  simp only at e
  subst e
  simp [opA, calmA] at h
theorem step_soundIn {r : Option Nat} {n : Nat} {B : Nat} {s s' : St} {a : Act} (cfg : Cfg) (fid : Nat) {call : Caller} (hc : Sound P ql call) (hI : Inv Γ B s a) {ops : Array Oper} {o : Oper} (h : stepA P cfg fid call ops.toList s o = some s')
    {K : Act → World → Prop} {Q : Exit → Act → World → Prop} (hK : ∀ Γ' a', Step ql B Γ Γ' → Inv Γ' B s' a' → K a' Γ'.w) :
    if Region.wanted o (yielded ops a.tmps) then o.wpIn (Fr r) n P a Γ.w K Q else (∀ f, o.about P Γ.w a.eval = some f → (Fr r).fn f) ∧ K (a.put o.dst undef) Γ.w := by
  have h1 := step_sound cfg fid hc hI h (K := K) (Q := Q) hK
  unfold stepA at h
  rw [Option.bind_eq_some_iff] at h
  obtain ⟨q, hq, h⟩ := h
  rw [wanted_sound hI hq] at h1 ⊢
  cases q with
  | true => exact wpIn_of_wp (opA_defer h) h1
  | false => exact ⟨fun _ _ => trivial, h1⟩

theorem litOf_rest {cfg : Cfg} {fid : Nat} {o : Oper} {l r : List Oper} {d : Nat} {t : TypeId} {len : Nat} {parts : List (Nat × Operand)} (hl : litOf cfg fid (o :: l) = some (d, t, len, parts, r)) : r = l := by
  simp only [litOf] at hl
  split at hl
  · split at hl
    · simp only [Option.some.injEq, Prod.mk.injEq] at hl
      exact hl.2.2.2.2.symm
    · cases hl
  · cases hl
theorem lit_sound {r' : Option Nat} {n : Nat} {B : Nat} {s s' : St} {a : Act} {cfg : Cfg} {fid : Nat} (hI : Inv Γ B s a) {o : Oper} {l r : List Oper} {d : Nat} {t : TypeId} {len : Nat} {parts : List (Nat × Operand)} (hl : litOf cfg fid (o :: l) = some (d, t, len, parts, r)) (h : buildG P s d t len parts = some s') {ys : Nat → Option Bool}
    {K : Act → World → Prop} {Q : Exit → Act → World → Prop} (hK : ∀ Γ' a', Step ql B Γ Γ' → Inv Γ' B s' a' → K a' Γ'.w) :
    if Region.wanted o ys then o.wpIn (Fr r') n P a Γ.w K Q else (∀ f, o.about P Γ.w a.eval = some f → (Fr r').fn f) ∧ K (a.put o.dst undef) Γ.w := by
  simp only [litOf] at hl
  split at hl
  · rename_i d' t' len' ps hd ho hg
    split at hl
    · simp only [Option.some.injEq, Prod.mk.injEq] at hl
      obtain ⟨rfl, rfl, rfl, rfl, rfl⟩ := hl
      have hw : Region.wanted o ys = true := by unfold Region.wanted; rw [hg]
      rw [if_pos hw]
      obtain ⟨Γ', u, hr, st, hI'⟩ := buildG_sound (ql := ql) hI h
      refine wpIn_of_wp (by rw [ho]; intro c e; cases e) ?_
      unfold Oper.wp
      have hx : (execOp a.eval o).run P Γ.w = .ok (.value u) Γ'.w := by
        unfold execOp
        rw [ho]
        simp only [Sem.run_bind, hr, Result.andThen_ok, Sem.run_pure]
      rw [hx]
      exact hK _ _ st (by rw [hd]; exact hI')
    · cases hl
  · cases hl
theorem ops_sound {r : Option Nat} {n : Nat} {B : Nat} (cfg : Cfg) (fid : Nat) {call : Caller} (hc : Sound P ql call) {ops : Array Oper} {Q : Exit → Act → World → Prop} : ∀ (l : List Oper) {Γ : Ctx} {s s' : St} {a : Act}, Inv Γ B s a → opsA P cfg fid call ops.toList l s = some s' →
    (∀ Γ' a', Step ql B Γ Γ' → Inv Γ' B s' a' → Q .normal a' Γ'.w) → wpListIn (Fr r) n P ops Q l a Γ.w
  | [], Γ, s, s', a, hI, h, hQ => by
    simp only [opsA, Option.some.injEq] at h
    subst h
    exact hQ Γ a (Step.refl _ _) hI
  | o :: l, Γ, s, s', a, hI, h, hQ => by
    simp only [opsA, Option.bind_eq_some_iff] at h
    obtain ⟨s1, h1, h⟩ := h
    refine wpListIn_step fun K hK => ?_
    exact step_soundIn cfg fid hc hI h1 fun Γ' a' st hI' => hK _ _ (ops_sound cfg fid hc l hI' h fun Γ'' a'' st' hI'' => hQ Γ'' a'' (st.trans st') hI'')
end
end Go.Proofs.YtckonoejmjblfaaGreat.Ev
