/- Code and functions: what the evaluator says of a call is what the machine does. -/
import Derived.Test.YtckonoejmjblfaaGreatEvU
set_option linter.unusedVariables false
set_option linter.unusedSimpArgs false
namespace Go.Proofs.YtckonoejmjblfaaGreat.Ev
open Go Go.RowKit

section
variable {ql : Prop} {P : Program}

theorem freeG_spec {ci : Oper → Bool} {q : Oper → Oper → Bool} {ops : Array Oper} {listed : Array Bool} {i : Nat} {R : Array Bool} {oi : Oper} (hi : ops[i]? = some oi) (h : freeG ci q ops listed i R = true) :
    ci oi = true ∧ (∀ (j : Nat) oj, ops[j]? = some oj → R.getD j false = true → ∃ e ∈ oj.after, Region.binds .any e = true ∧ (e.on = i ∨ R.getD e.on false = true)) ∧
    (∀ (j : Nat) oj, ops[j]? = some oj → R.getD j false = true → listed.getD j true = false) ∧
    ∀ (j : Nat) oj, ops[j]? = some oj → j ≠ i → listed.getD j true = false → R.getD j false = false → oi.apart ops oj = true ∧ q oi oj = true := by
  unfold freeG at h
  simp only [hi, Bool.and_eq_true, List.all_eq_true, List.mem_range] at h
  have hj' : ∀ (j : Nat) oj, ops[j]? = some oj → _ := fun j oj hj => by
    have hlt : j < ops.size := (Array.getElem?_eq_some_iff.1 hj).1
    have := h.2 j hlt
    rw [hj] at this
    exact this
  refine ⟨h.1, fun j oj hj hR => ?_, fun j oj hj hR => ?_, fun j oj hj hji hl hR => ?_⟩
  · have h1 := hj' j oj hj
    simp only [hR, if_true, Bool.and_eq_true] at h1
    have h2 := h1.2
    rw [Array.any_eq_true] at h2
    obtain ⟨k, hk, h2⟩ := h2
    simp only [Bool.and_eq_true, Bool.or_eq_true, beq_iff_eq] at h2
    exact ⟨_, Array.getElem_mem hk, h2.1, h2.2⟩
  · have h1 := hj' j oj hj
    simp only [hR, if_true, Bool.and_eq_true] at h1
    simpa using h1.1
  · have h1 := hj' j oj hj
    simp only [hR, Bool.false_eq_true, if_false, Bool.or_eq_true, Bool.and_eq_true, beq_iff_eq] at h1
    rcases h1 with (h1 | h1) | h1
    · exact absurd h1 hji
    · rw [hl] at h1; cases h1
    · exact h1
theorem behind_lt (ops : Array Oper) (i j : Nat) (h : (behind ops i).getD j false = true) : j < ops.size := by
  have hs : (behind ops i).size = ops.size := by
    unfold behind
    rw [← Array.foldl_toList]
    have : ∀ (l : List Oper) (R : Array Bool), (l.foldl (fun R o => R.push (o.after.any fun e => Region.binds .any e && (e.on == i || R.getD e.on false))) R).size = R.size + l.length := by
      intro l
      induction l with
      | nil => intro R; rfl
      | cons o l ih => intro R; rw [List.foldl_cons, ih, Array.size_push, List.length_cons]; omega
    rw [this]
    simp
  rcases Nat.lt_or_ge j (behind ops i).size with h' | h'
  · rw [← hs]; exact h'
  · rw [Array.getD_eq_getD_getElem?, Array.getElem?_eq_none h'] at h
    cases h

theorem lexA_sound {cfg : Cfg} {fid : Nat} {call : Caller} {ops : Array Oper} : ∀ (l : List Oper) (k : Nat) (listed : Array Bool) (s s' : St), (∀ j, l[j]? = ops[k + j]?) → lexA cfg ops l.length k listed = true →
    opsA P cfg fid call ops.toList l s = some s' → AAny P cfg fid call ops l.length listed s s'
  | [], k, listed, s, s', _, hB, h => by
    simp only [opsA, Option.some.injEq] at h
    exact ⟨by simpa [lexA] using hB, h⟩
  | o :: l, k, listed, s, s', hl, hB, h => by
    have h0 : ops[k]? = some o := by simpa using (hl 0).symm
    simp only [List.length_cons, lexA, Bool.and_eq_true, Bool.or_eq_true] at hB
    obtain ⟨hk, hB'⟩ := hB
    simp only [opsA, Option.bind_eq_some_iff] at h
    obtain ⟨s1, h1, h2⟩ := h
    have rest := lexA_sound l (k + 1) (listed.setIfInBounds k true) s1 s' (fun j => by have := hl (j + 1); simpa [Nat.add_assoc, Nat.add_comm 1 j] using this) hB' h2
    rcases hk with hk | hk
    · have hr : Region.ready .any ops listed = [k] := by simpa using hk
      refine ⟨fun e => (by rw [hr] at e; cases e), fun i hi => ?_⟩
      rw [hr] at hi
      have : i = k := by simpa using hi
      subst this
      exact ⟨s1, by unfold stOpA; rw [h0]; exact h1, rest⟩
    · obtain ⟨hr, hf⟩ := hk
      obtain ⟨hc, hR, hun, hfree⟩ := freeG_spec h0 hf
      obtain ⟨v, rfl, hy⟩ := calmOp_step (lazy_nil _ _) hc h1
      generalize usesGl s o.op = g at hy
      refine aany_first (fun s => Told P cfg fid call ops [] g s o v) (fun s => s.put o.dst v) (fun s hs => hs.self h0) (fun j => (behind ops k).getD j false) hR l.length listed s s' hun (fun j hj => behind_lt ops k j hj) (fun j oj hj hji hun hno s hs s1 h1 => ?_) (by simpa using hr) hy rest
      obtain ⟨hap, hcj⟩ := hfree j oj hj hji hun hno
      obtain ⟨u, k1, k2, k3⟩ := calm_swap hj hap hcj h1
      exact ⟨_, k1, hs.put _ _ k3, k2⟩

theorem storeOp_spec {o : Oper} (h : storeOp o = true) : o.dst = none ∧ ∃ t a x, o.op = .store t (.tmp a) x := by
  unfold storeOp at h
  split at h
  · exact ⟨rfl, _, _, _, rfl⟩
  · cases h
/-- The stores' addresses. -/
def StAddr (ops : Array Oper) (ks : List Nat) (s : St) : Prop := ∀ (j : Nat) oj t a x, ops[j]? = some oj → oj.op = .store t (.tmp a) x → ∃ k off, s.get a = .c (.w (.box k off)) ∧ k ∈ ks
theorem lazyKs_spec {s : St} : ∀ {l : List Oper} {ks : List Nat}, lazyKs s l = some ks → ∀ o ∈ l, ∀ t a x, o.op = .store t (.tmp a) x → ∃ k off, s.get a = .c (.w (.box k off)) ∧ k ∈ ks
  | [], ks, _, o, ho => by cases ho
  | o' :: l, ks, h, o, ho => by
    intro t a x hop
    simp only [lazyKs] at h
    rcases List.mem_cons.1 ho with rfl | ho
    · rw [hop] at h
      simp only at h
      split at h
      · rename_i k off hg
        rw [Option.map_eq_some_iff] at h
        obtain ⟨r, _, rfl⟩ := h
        exact ⟨k, off, hg, by simp⟩
      · cases h
    · split at h
      · split at h
        · rw [Option.map_eq_some_iff] at h
          obtain ⟨r, hr, rfl⟩ := h
          obtain ⟨k, off, h1, h2⟩ := lazyKs_spec hr o ho t a x hop
          exact ⟨k, off, h1, by simp [h2]⟩
        · cases h
      · exact lazyKs_spec h o ho t a x hop
theorem storesApart_spec {ops : Array Oper} (h : storesApart ops = true) {j i : Nat} {oj oi : Oper} {t : TypeId} {a : Nat} {x : Operand} (hj : ops[j]? = some oj) (hi : ops[i]? = some oi) (ho : oj.op = .store t (.tmp a) x) : oi.dst ≠ some a := by
  unfold storesApart at h
  rw [List.all_eq_true] at h
  have h1 := h oj (List.mem_of_getElem? (by rw [Array.getElem?_toList]; exact hj))
  rw [ho] at h1
  simp only [List.all_eq_true] at h1
  simpa using h1 oi (List.mem_of_getElem? (by rw [Array.getElem?_toList]; exact hi))
theorem StAddr.put {ops : Array Oper} {ks : List Nat} {s : St} (hs : storesApart ops = true) (h : StAddr ops ks s) {i : Nat} {oi : Oper} (hi : ops[i]? = some oi) (v : V) : StAddr ops ks (s.put oi.dst v) := by
  intro j oj t a x hj ho
  obtain ⟨k, off, h1, h2⟩ := h j oj t a x hj ho
  refine ⟨k, off, ?_, h2⟩
  rw [get_put_ne, h1]
  rintro d hd rfl
  exact storesApart_spec hs hj hi ho hd
theorem StAddr.step {ops : Array Oper} {ks : List Nat} {s s1 : St} (hs : storesApart ops = true) (h : StAddr ops ks s) {i : Nat} {oi : Oper} (hi : ops[i]? = some oi) (hsl : ∀ a, oi.dst ≠ some a → s1.get a = s.get a) : StAddr ops ks s1 := by
  intro j oj t a x hj ho
  obtain ⟨k, off, h1, h2⟩ := h j oj t a x hj ho
  exact ⟨k, off, by rw [hsl a (storesApart_spec hs hj hi ho), h1], h2⟩

theorem opA_sl {cfg : Cfg} {fid : Nat} {call : Caller} {s s' : St} {o : Oper} (h : opA P cfg fid call s o = some s') : ∃ v, s'.sl = (s.put o.dst v).sl := by
  have calm' : (calmA P s o.op).map (fun v => s.put o.dst v) = some s' → ∃ v, s'.sl = (s.put o.dst v).sl := by
    intro h
    rw [Option.map_eq_some_iff] at h
    obtain ⟨x, hx, rfl⟩ := h
    exact ⟨_, rfl⟩
  have newvar : ∀ (d : Nat) (cs : List W), (if cfg.esc fid d then (lodges cs).map fun cs => { (s.put o.dst (.c (.w (.glo s.gl.length 0)))) with gl := s.gl ++ [cs] }
        else match look s.bx d, look s.it d with | none, none => some { (s.put o.dst (.c (.w (.box d 0)))) with bx := upd s.bx d cs } | _, _ => none) = some s' → ∃ v, s'.sl = (s.put o.dst v).sl := by
    intro d cs h
    split at h
    · rw [Option.map_eq_some_iff] at h
      obtain ⟨cs', _, rfl⟩ := h
      exact ⟨_, rfl⟩
    · split at h
      · cases h; exact ⟨_, rfl⟩
      · cases h
  unfold opA at h
  split at h
  · simp only [Option.bind_eq_some_iff] at h
    obtain ⟨z, hz, d, hd, h⟩ := h
    exact newvar d _ h
  · simp only [Option.bind_eq_some_iff] at h
    obtain ⟨d, hd, v, hv, h⟩ := h
    split at h
    · cases h; exact ⟨_, rfl⟩
    · cases h
  · rw [Option.bind_eq_some_iff] at h
    obtain ⟨v, hv, h⟩ := h
    split at h
    · rw [Option.bind_eq_some_iff] at h
      obtain ⟨p, hp, h⟩ := h
      split at h
      · cases h; exact ⟨_, rfl⟩
      · cases h; exact ⟨_, rfl⟩
    · cases h
  · simp only [Option.bind_eq_some_iff] at h
    obtain ⟨v, hv, c, hcv, d, hd, h⟩ := h
    by_cases hf : cfg.frz fid d = true
    · rw [if_pos hf, Option.map_eq_some_iff] at h
      obtain ⟨ds, hds, rfl⟩ := h
      exact ⟨_, rfl⟩
    · rw [if_neg hf] at h
      exact newvar d _ h
  · rw [Option.bind_eq_some_iff] at h
    obtain ⟨v, hv, h⟩ := h
    split at h
    · simp only [Option.bind_eq_some_iff] at h
      obtain ⟨v', hv', c, hcv, n, hn, h⟩ := h
      split at h
      · rw [Option.map_eq_some_iff] at h
        obtain ⟨s2, hs2, rfl⟩ := h
        unfold St.storeW at hs2
        split at hs2
        · simp only [Option.bind_eq_some_iff, Option.map_eq_some_iff] at hs2
          obtain ⟨cs, hcs, cs', hp', rfl⟩ := hs2
          exact ⟨V.un, by cases o.dst <;> rfl⟩
        · split at hs2
          · cases hs2
          · simp only [Option.bind_eq_some_iff, Option.map_eq_some_iff] at hs2
            obtain ⟨cs, hcs, cs', hp', cs2, hp2, rfl⟩ := hs2
            exact ⟨V.un, by cases o.dst <;> rfl⟩
        · cases hs2
      · cases h
    · cases h
  · split at h
    · split at h
      · simp only [Option.bind_eq_some_iff] at h
        obtain ⟨v, hv, v', hv', d, hd, h⟩ := h
        rw [hd]
        exact (appendM_mild h).sl
      · cases h
    · cases h
  · simp only [Option.bind_eq_some_iff] at h
    obtain ⟨vl, hvl, il, hil, vc, hvc, ic, hic, h⟩ := h
    exact (make_mild h).sl
  · split at h
    · simp only [Option.bind_eq_some_iff] at h
      obtain ⟨v, hv, v', hv', h⟩ := h
      exact (copy_mild h).sl
    · cases h
  · split at h
    · simp only [Option.bind_eq_some_iff] at h
      obtain ⟨v, hv, h⟩ := h
      exact (clear_mild h).sl
    · cases h
  · rw [Option.bind_eq_some_iff] at h
    obtain ⟨v, hv, h⟩ := h
    split at h
    · simp only [Option.bind_eq_some_iff] at h
      obtain ⟨vs, hvs, h⟩ := h
      unfold callA at h
      simp only [Option.bind_eq_some_iff] at h
      obtain ⟨cs0, hcs0, cs, hcs, h⟩ := h
      split at h
      · rw [Option.bind_eq_some_iff] at h
        obtain ⟨r, hr, h⟩ := h
        split at h
        · cases h; exact ⟨_, rfl⟩
        · cases h
      · rw [Option.map_eq_some_iff] at h
        obtain ⟨r, hr, rfl⟩ := h
        exact ⟨_, rfl⟩
    · cases h
  · exact calm' h
theorem stepA_get {cfg : Cfg} {fid : Nat} {call : Caller} {ops : List Oper} {s s' : St} {o : Oper} (h : stepA P cfg fid call ops s o = some s') {a : Nat} (ha : o.dst ≠ some a) : s'.get a = s.get a := by
  have key : ∃ v, s'.sl = (s.put o.dst v).sl := by
    unfold stepA at h
    rw [Option.bind_eq_some_iff] at h
    obtain ⟨q, hq, h⟩ := h
    cases q with
    | true => exact opA_sl h
    | false => simp only [Option.some.injEq] at h; exact ⟨_, by rw [← h]⟩
  obtain ⟨v, hv⟩ := key
  have : s'.get a = (s.put o.dst v).get a := by simp only [St.get, hv]
  rw [this, get_put_ne]
  rintro k hk rfl
  exact ha hk

/-- The slots that such a region loads from. -/
def LdAddr (lo : List Nat) (s : St) : Prop := ∀ a ∈ lo, a < 100000 → ∃ k off, s.get a = .c (.w (.box k off))
theorem loadsOk_spec {s : St} {lo : List Nat} (h : loadsOk s lo = true) : LdAddr lo s := by
  intro a ha ha1
  have := (List.all_eq_true.1 h) a ha
  rw [decide_eq_false (by omega), Bool.false_or] at this
  split at this
  · exact ⟨_, _, by assumption⟩
  · cases this
theorem loadsApart_spec {lo : List Nat} {ops : Array Oper} (h : loadsApart lo ops = true) {i : Nat} {oi : Oper} (hi : ops[i]? = some oi) {a : Nat} (ha : a ∈ lo) : oi.dst ≠ some a := by
  unfold loadsApart at h
  rw [List.all_eq_true] at h
  have h1 := h oi (List.mem_of_getElem? (by rw [Array.getElem?_toList]; exact hi))
  simp only [List.all_eq_true] at h1
  simpa using h1 a ha
theorem LdAddr.step {lo : List Nat} {ops : Array Oper} {s s1 : St} (hs : loadsApart lo ops = true) (h : LdAddr lo s) {i : Nat} {oi : Oper} (hi : ops[i]? = some oi) (hsl : ∀ a, oi.dst ≠ some a → s1.get a = s.get a) : LdAddr lo s1 := by
  intro a ha ha1
  obtain ⟨k, off, h1⟩ := h a ha ha1
  exact ⟨k, off, by rw [hsl a (loadsApart_spec hs hi ha), h1]⟩
theorem glfree_uses {lo : List Nat} {s : St} (hL : LdAddr lo s) {op : Op} (h : glfree lo op = true) : usesGl s op = false := by
  unfold glfree at h
  rw [Bool.or_eq_true] at h
  rcases h with h | h
  · cases op with
    | call c =>
      obtain ⟨callee, args, ts⟩ := c
      cases callee <;> first | rfl | simp [pureOp] at h
    | load t x => simp [pureOp] at h
    | _ => rfl
  · split at h
    · rename_i t a
      rw [Bool.and_eq_true, decide_eq_true_eq] at h
      obtain ⟨k, off, e⟩ := hL a (by simpa using h.1) h.2
      simp [usesGl, St.ev, e]
    · cases h
theorem dynLd_uses {lo ks : List Nat} {s : St} (hk : ∀ x ∈ dynOf lo, x ∈ ks) {op : Op} (h : dynLd lo op = true) (hz : lazyOp ks s op = true) : usesGl s op = false := by
  unfold dynLd at h
  split at h
  · rename_i t a
    have hm : a + 100000 ∈ ks := hk _ (List.mem_filter.2 ⟨by simpa using h, by simp⟩)
    unfold lazyOp at hz
    simp only at hz
    unfold usesGl
    simp only
    split at hz
    · rename_i e; rw [e]
    · rw [Bool.not_eq_true', List.contains_eq_mem, decide_eq_false_iff_not] at hz
      exact absurd hm hz
  · cases h
theorem get_put_ne' {s : St} {d : Option Nat} {v : V} {t : Nat} (h : d ≠ some t) : (s.put d v).get t = s.get t := get_put_ne (fun k hk e => h (by rw [hk, e]))
theorem lexL_sound {cfg : Cfg} {fid : Nat} {call : Caller} {ops : Array Oper} {ks lo : List Nat} (hsa : storesApart ops = true) (hla : loadsApart lo ops = true) (hdk : ∀ x ∈ dynOf lo, x ∈ ks) : ∀ (l : List Oper) (k : Nat) (listed : Array Bool) (s s' : St), (∀ j, l[j]? = ops[k + j]?) → lexL cfg lo ops l.length k listed = true →
    opsL P cfg fid call ks ops.toList l s = some s' → StAddr ops ks s → LdAddr lo s → AAny P cfg fid call ops l.length listed s s'
  | [], k, listed, s, s', _, hB, h, _, _ => by
    simp only [opsL, Option.some.injEq] at h
    exact ⟨by simpa [lexL] using hB, h⟩
  | o :: l, k, listed, s, s', hl, hB, h, hA, hL => by
    have h0 : ops[k]? = some o := by simpa using (hl 0).symm
    simp only [List.length_cons, lexL, Bool.and_eq_true, Bool.or_eq_true] at hB
    obtain ⟨hk, hB'⟩ := hB
    simp only [opsL] at h
    split at h
    · rename_i hz
      rw [Option.bind_eq_some_iff] at h
      obtain ⟨s1, h1, h2⟩ := h
      have rest := lexL_sound hsa hla hdk l (k + 1) (listed.setIfInBounds k true) s1 s' (fun j => by have := hl (j + 1); simpa [Nat.add_assoc, Nat.add_comm 1 j] using this) hB' h2 (hA.step hsa h0 fun a ha => stepA_get h1 ha) (hL.step hla h0 fun a ha => stepA_get h1 ha)
      rcases hk with hk | hk
      · have hr : Region.ready .any ops listed = [k] := by simpa using hk
        refine ⟨fun e => (by rw [hr] at e; cases e), fun i hi => ?_⟩
        rw [hr] at hi
        have : i = k := by simpa using hi
        subst this
        exact ⟨s1, by unfold stOpA; rw [h0]; exact h1, rest⟩
      · obtain ⟨hr, hf⟩ := hk
        obtain ⟨hc, hR, hunR, hfree⟩ := freeG_spec h0 hf
        cases hcalm : calmOp cfg o.op with
        | true =>
          obtain ⟨v, rfl, hy⟩ := calmOp_step hz hcalm h1
          generalize hgu : usesGl s o.op = g at hy
          refine aany_first (fun s => Told P cfg fid call ops ks g s o v ∧ StAddr ops ks s ∧ LdAddr lo s) (fun s => s.put o.dst v) (fun s hs => hs.1.self h0) (fun j => (behind ops k).getD j false) hR l.length listed s s' hunR (fun j hj => behind_lt ops k j hj) (fun j oj hj hji hun hno s2 hs s1 h1 => ?_) (by simpa using hr) ⟨hy, hA, hL⟩ rest
          obtain ⟨hap, hcj⟩ := hfree j oj hj hji hun hno
          simp only [pairOk, Bool.or_eq_true, Bool.and_eq_true] at hcj
          rcases hcj with (⟨_, hcj | hcj⟩ | ⟨⟨_, hgf⟩, hcj⟩) | ⟨⟨_, hcj⟩, _⟩
          · obtain ⟨u, k1, k2, k3⟩ := calm_swap hj hap hcj h1
            exact ⟨_, k1, ⟨hs.1.put _ _ k3, hs.2.1.put hsa hj u, hs.2.2.step hla hj fun a ha => get_put_ne' ha⟩, k2⟩
          · obtain ⟨hd, t, a, x, ho⟩ := storeOp_spec hcj
            obtain ⟨q, off, e1, e2⟩ := hs.2.1 j oj t a x hj ho
            obtain ⟨sj, k1, k2, k3, k4, k5, k6⟩ := store_swap hj hap hd ho e1 h1
            refine ⟨sj, k1, ⟨hs.1.same k3 (fun i hi => k6 i ?_) k4 k5, hs.2.1.step hsa hj fun a _ => by simp only [St.get, k3], hs.2.2.step hla hj fun a _ => by simp only [St.get, k3]⟩, k2⟩
            rintro rfl
            simp [e2] at hi
          · have hg0 : g = false := by
              rw [← hgu]
              rcases hgf with hgf | hgf
              · exact glfree_uses hL hgf
              · exact dynLd_uses hdk hgf hz
            subst hg0
            obtain ⟨u, gl, k1, k2, k3⟩ := call_swap hj hap hcj h1
            have hget : ∀ a, oj.dst ≠ some a → ({ (s2.put oj.dst u) with gl := gl } : St).get a = s2.get a := fun a ha => get_put_ne' ha
            refine ⟨_, k1, ⟨hs.1.move (Like.of _ (put_bx _ _ _)) (fun e => by cases e) (put_ro _ _ _) (fun x hx => ?_) ?_, hs.2.1.step hsa hj hget, hs.2.2.step hla hj hget⟩, k2⟩
            · rw [withgl_ev]
              exact ev_put (fun k hk e => k3 k hk (operands_look hx e))
            · rw [withgl_wanted]
              exact wantedA_put k3
          · obtain ⟨u, k1, k2, k3⟩ := calm_swap hj hap hcj h1
            exact ⟨_, k1, ⟨hs.1.put _ _ k3, hs.2.1.put hsa hj u, hs.2.2.step hla hj fun a ha => get_put_ne' ha⟩, k2⟩
        | false =>
          have hcall : callOp o.op = true := by simpa [hcalm] using hc
          obtain ⟨v, gl, rfl, hy⟩ := call_tolc hcall h1
          refine aany_first (fun s => Tolc P cfg fid call ops s o v gl ∧ StAddr ops ks s ∧ LdAddr lo s) (fun s => { (s.put o.dst v) with gl := gl }) (fun s hs => by unfold stOpA; rw [h0]; exact hs.1 s rfl rfl (fun _ _ => rfl) rfl) (fun j => (behind ops k).getD j false) hR l.length listed s s' hunR (fun j hj => behind_lt ops k j hj) (fun j oj hj hji hun hno s2 hs s1 h1 => ?_) (by simpa using hr) ⟨hy, hA, hL⟩ rest
          obtain ⟨hap, hcj⟩ := hfree j oj hj hji hun hno
          simp only [pairOk, hcalm, Bool.or_eq_true, Bool.and_eq_true, Bool.false_eq_true, false_and, false_or] at hcj
          obtain ⟨⟨_, hcj⟩, hgf⟩ := hcj
          obtain ⟨p1, p2, p3⟩ := Oper.apart_spec hap
          have hLF : LdAddr lo ({ (s2.put o.dst v) with gl := gl } : St) := hs.2.2.step hla h0 fun a ha => get_put_ne' ha
          unfold stOpA at h1
          rw [hj] at h1
          obtain ⟨u, rfl, hyj⟩ := calmOp_step (lazy_nil _ _) hcj h1
          have hu : Yield P cfg fid call ops s2 oj u := hyj s2 (Like.of _ (put_bx _ _ _).symm) (fun e => by rw [glfree_uses hLF hgf] at e; cases e) (put_ro _ _ _).symm (fun x hx => by rw [withgl_ev]; exact (ev_put (fun k hk e => p1 k hk (operands_look hx e))).symm) (by rw [withgl_wanted]; exact (wantedA_put p1).symm)
          refine ⟨s2.put oj.dst u, by unfold stOpA; rw [hj]; exact hu, ⟨hs.1.move (put_gl _ _ _) (put_ro _ _ _) (fun x hx => ev_put (fun k hk e => p3 k hk (operands_look hx e))) (wantedA_put p3), hs.2.1.put hsa hj u, hs.2.2.step hla hj fun a ha => get_put_ne' ha⟩, ?_⟩
          have := put_comm (s := s2) (v := v) (u := u) p2
          have e : ∀ (z : St) (d : Option Nat) (y : V), ({ z with gl := gl } : St).put d y = { (z.put d y) with gl := gl } := fun z d y => by cases d <;> rfl
          show ({ (s2.put o.dst v) with gl := gl } : St).put oj.dst u = { ((s2.put oj.dst u).put o.dst v) with gl := gl }
          rw [e, this]
    · cases h
theorem opsL_opsA {cfg : Cfg} {fid : Nat} {call : Caller} {ops : List Oper} {ks : List Nat} : ∀ (l : List Oper) (s s' : St), opsL P cfg fid call ks ops l s = some s' → opsA P cfg fid call ops l s = some s'
  | [], s, s', h => h
  | o :: l, s, s', h => by
    simp only [opsL] at h
    split at h
    · rw [Option.bind_eq_some_iff] at h
      obtain ⟨s1, h1, h2⟩ := h
      simp only [opsA, h1, Option.bind_some]
      exact opsL_opsA l s1 s' h2
    · cases h
/-- What a region comes to. -/
def regA (P : Program) (cfg : Cfg) (fid : Nat) (call : Caller) (id : Nat) (ops : Array Oper) (s : St) : Option St :=
  match litOf cfg fid ops.toList with
  | some (d, t, len, parts, r) => (buildG P s d t len parts).bind fun s => opsA P cfg fid call ops.toList r s
  | none => if cfg.lazy fid id then if loadsOk s (cfg.loads fid id) then (lazyKs s ops.toList).bind fun ks => opsL P cfg fid call (ks ++ dynOf (cfg.loads fid id)) ops.toList ops.toList s else none else opsA P cfg fid call ops.toList ops.toList s
theorem regA_opsA {cfg : Cfg} {fid : Nat} {call : Caller} {id : Nat} {ops : Array Oper} {s s' : St} (hl : litOf cfg fid ops.toList = none) (h : regA P cfg fid call id ops s = some s') : opsA P cfg fid call ops.toList ops.toList s = some s' := by
  unfold regA at h
  rw [hl] at h
  simp only at h
  split at h
  · split at h
    · rw [Option.bind_eq_some_iff] at h
      obtain ⟨ks, _, h⟩ := h
      exact opsL_opsA _ _ _ h
    · cases h
  · exact h
theorem region_sound {rd : Option Nat} {n : Nat} {Γ : Ctx} {B : Nat} {cfg : Cfg} {fid : Nat} {call : Caller} (hm : P.follows .mixedOrders = true) (hc : Sound P ql call) {s s' : St} {a : Act} (hI : Inv Γ B s a) {id : Nat} {ops : Array Oper} {draw : Bool}
    (hd : codeOk cfg fid (.region id ops draw) = true) (h : regA P cfg fid call id ops s = some s') {Q : Exit → Act → World → Prop} (hQ : ∀ Γ' a', Step ql B Γ Γ' → Inv Γ' B s' a' → Q .normal a' Γ'.w) : (Code.region id ops draw).wpIn (Fr rd) n P Q a Γ.w := by
  cases draw with
  | false =>
    refine wpIn_region_list ?_
    cases hl : litOf cfg fid ops.toList with
    | none => exact ops_sound cfg fid hc ops.toList hI (regA_opsA hl h) hQ
    | some q =>
      obtain ⟨d, t, len, parts, r⟩ := q
      unfold regA at h
      rw [hl] at h
      simp only [Option.bind_eq_some_iff] at h
      obtain ⟨s1, h1, h2⟩ := h
      obtain ⟨L, hL⟩ : ∃ L, ops.toList = L := ⟨_, rfl⟩
      rw [hL] at hl ⊢
      cases L with
      | nil => cases hl
      | cons o l =>
        obtain rfl := litOf_rest hl
        exact wpListIn_step fun K hK => lit_sound hI hl h1 fun Γ' a' st hI' => hK _ _ (ops_sound cfg fid hc _ hI' h2 fun Γ'' a'' st' hI'' => hQ Γ'' a'' (st.trans st') hI'')
  | true =>
    simp only [codeOk, Bool.or_eq_true, beq_iff_eq, Bool.true_eq_false, false_or, Bool.and_eq_true, Option.isNone_iff_eq_none] at hd
    obtain ⟨hl, hd⟩ := hd
    unfold regA at h
    rw [hl] at h
    simp only at h
    refine wpIn_region_any hm ?_
    have g : Grow Γ { Γ with w := { Γ.w with drawn := Γ.w.drawn + 1 } } := ⟨rfl, rfl, rfl, rfl, rfl, rfl, rfl, rfl, rfl, rfl, Nat.le_refl _, fun _ _ => rfl, fun _ h => h, fun _ h => .inl h, Nat.le_succ _⟩
    have this : AAny P cfg fid call ops ops.size (Array.replicate ops.size false) s s' := by
      split at h
      · rename_i hz
        rw [if_pos hz] at hd
        simp only [drawOkL, Bool.and_eq_true] at hd
        split at h
        · rename_i hlo
          rw [Option.bind_eq_some_iff] at h
          obtain ⟨ks, hks, h⟩ := h
          have := lexL_sound (P := P) (cfg := cfg) (fid := fid) (call := call) (ks := ks ++ dynOf (cfg.loads fid id)) (lo := cfg.loads fid id) hd.1.1 hd.1.2 (fun x hx => List.mem_append.2 (.inr hx)) ops.toList 0 (Array.replicate ops.size false) s s' (by simp) (by simpa using hd.2) h
            (fun j oj t a x hj ho => by
              obtain ⟨k, off, e1, e2⟩ := lazyKs_spec hks oj (List.mem_of_getElem? (by rw [Array.getElem?_toList]; exact hj)) t a x ho
              exact ⟨k, off, e1, by simp only [List.contains_eq_mem, List.mem_append, decide_eq_true_eq] at e2 ⊢; exact .inl e2⟩) (loadsOk_spec hlo)
          rwa [Array.length_toList] at this
        · cases h
      · rename_i hz
        rw [if_neg hz] at hd
        have := lexA_sound (P := P) (cfg := cfg) (fid := fid) (call := call) ops.toList 0 (Array.replicate ops.size false) s s' (by simp) (by simpa [drawOk] using hd) h
        rwa [Array.length_toList] at this
    exact aany_sound (Γ := { Γ with w := { Γ.w with drawn := Γ.w.drawn + 1 } }) hc _ _ (hI.grow g) this fun Γ' a' st hI' => hQ Γ' a' ((hI.step_of_grow g).trans st) hI'

/-! what is forgotten at a loop's head -/
theorem mem_contains {l : List Nat} {k : Nat} (h : l.contains k = true) : k ∈ l := by simpa using h
def Ctx.hav (Γ : Ctx) (keep : List Nat) : Ctx := { Γ with bl := fun k => Γ.bl k ∧ keep.contains k = true, len := fun k => if keep.contains k then Γ.len k else none }
theorem RW.hav {Γ : Ctx} {keep : List Nat} {v : Value} {x : W} (h : RW Γ v x) : RW (Γ.hav keep) v (x.hav keep) := by
  cases x <;> simp only [W.hav] <;> try exact h
  · rename_i k xs
    obtain ⟨h1, n, h2, h3, h4⟩ := h
    by_cases hk : keep.contains k = true
    · rw [if_pos hk]; exact ⟨h1, n, by simp only [Ctx.hav]; rw [if_pos hk]; exact h2, h3, h4⟩
    · rw [if_neg hk]; exact h1
  · rename_i k off
    by_cases hk : keep.contains k = true
    · rw [if_pos hk]; exact ⟨h.1, h.2, hk⟩
    · rw [if_neg hk]; trivial
  · rename_i k off n
    obtain ⟨ad, c, h1, h2, h4, h3⟩ := h
    by_cases hk : keep.contains k = true
    · rw [if_pos hk]; exact ⟨ad, c, h1, h2, h4, h3, hk⟩
    · rw [if_neg hk]; trivial
theorem RC.hav {Γ : Ctx} {keep : List Nat} {v : Value} {x : C} (h : RC Γ v x) : RC (Γ.hav keep) v (x.hav keep) := by
  cases x with
  | w x => exact RW.hav h
  | agg xs =>
    obtain ⟨cs, rfl, h1, h2⟩ := h
    exact ⟨cs, rfl, All2.map_right _ (h1.mono fun _ _ => RW.hav), h2⟩
theorem RV.hav {Γ : Ctx} {keep : List Nat} {v : Value} {x : V} (h : RV Γ v x) : RV (Γ.hav keep) v (x.hav keep) := by
  cases x with
  | c x => exact RC.hav h
  | tup xs => trivial
theorem look_filter {α : Type} (q : Nat → Bool) : ∀ (l : List (Nat × α)) (k : Nat), look (l.filter fun p => q p.1) k = if q k then look l k else none
  | [], k => by simp [look]
  | (i, x) :: r, k => by
    simp only [List.filter_cons]
    by_cases hi : q i = true
    · simp only [hi, if_true, look]
      rw [look_filter q r k]
      by_cases hik : i = k
      · subst hik; simp [hi]
      · simp [hik]
    · simp only [hi, look]
      rw [if_neg (by simp), look_filter q r k]
      by_cases hik : i = k
      · subst hik; simp [hi]
      · simp [hik]
theorem look_map {α β : Type} (f : α → β) : ∀ (l : List (Nat × α)) (k : Nat), look (l.map fun p => (p.1, f p.2)) k = (look l k).map f
  | [], k => rfl
  | (i, x) :: r, k => by
    simp only [List.map_cons, look]
    by_cases hik : i = k
    · simp [hik]
    · simp [hik, look_map f r k]
theorem havSl_get (keep : List Nat) : ∀ (l : List V) (i j : Nat) (y : V), (havSl keep i l)[j]? = some y → ∃ x, l[j]? = some x ∧ (y = x.hav keep ∨ y = V.un)
  | [], i, j, y, h => by simp [havSl] at h
  | v :: r, i, 0, y, h => by
    simp only [havSl, List.getElem?_cons_zero, Option.some.injEq] at h
    refine ⟨v, rfl, ?_⟩
    split at h
    · exact .inl h.symm
    · exact .inr h.symm
  | v :: r, i, j + 1, y, h => by
    simp only [havSl, List.getElem?_cons_succ] at h
    simpa using havSl_get keep r (i + 1) j y h
theorem havSl_len (keep : List Nat) : ∀ (l : List V) (i : Nat), (havSl keep i l).length = l.length
  | [], i => rfl
  | v :: r, i => by simp [havSl, havSl_len keep r]
theorem Inv.hav {Γ : Ctx} {B : Nat} {s : St} {a : Act} (h : Inv Γ B s a) (keep : List Nat) : Step ql B Γ (Γ.hav keep) ∧ Inv (Γ.hav keep) B (s.hav keep) a := by
  refine ⟨⟨rfl, rfl, rfl, Nat.le_refl _, fun _ _ _ => rfl, fun _ ha => ⟨ha, rfl⟩, fun _ ha => .inl ha, Nat.le_refl _, fun _ _ => rfl, fun _ _ _ => rfl, fun _ => Nat.le_refl _⟩,
    h.defers, by simp [St.hav, havSl_len, h.size], fun i v y hv hy => ?_, fun k => ?_, fun k => ?_, h.ng, fun k cs hk => ?_, fun k t hk => ?_, fun o cs ho hce => ?_, h.fix, h.ownlt, h.base, fun k p hk => ?_⟩
  · obtain ⟨x, hx, rfl | rfl⟩ := havSl_get keep _ _ _ _ hy
    · exact (h.slots i v x hv hx).hav
    · trivial
  · simp only [Ctx.hav, St.hav]
    rw [look_filter (fun k => keep.contains k)]
    split
    · exact h.len k
    · rfl
  · simp only [Ctx.hav, St.hav]
    rw [look_map, look_filter (fun k => keep.contains k), look_filter (fun k => keep.contains k), Option.isSome_map, h.bl]
    by_cases hk : k ∈ keep <;> simp [hk]
  · simp only [St.hav] at hk
    rw [look_map, look_filter (fun k => keep.contains k), Option.map_eq_some_iff] at hk
    obtain ⟨cs0, hk, rfl⟩ := hk
    split at hk
    · obtain ⟨vs, ty, e1, e2, e3, e4, e5⟩ := h.boxes k cs0 hk
      exact ⟨vs, ty, e1, e2, All2.map_right _ (e3.mono fun _ _ => RW.hav), e4, e5⟩
    · cases hk
  · simp only [St.hav] at hk
    rw [look_filter (fun k => keep.contains k)] at hk
    split at hk
    · exact h.toks k t hk
    · cases hk
  · obtain ⟨vs, ty, e1, e3, e4, e5, e6⟩ := h.globs o cs ho hce
    refine ⟨vs, ty, e1, ⟨e3.1, fun i u b hu hb => ?_⟩, e4, e5, e6⟩
    have := (e3.2 i u b hu hb).hav (keep := keep)
    have hf := e6.1 b (List.mem_of_getElem? hb)
    cases b <;> simp only [W.free, Bool.false_eq_true] at hf <;> exact this
  · simp only [St.hav] at hk
    rw [look_filter (fun k => keep.contains k)] at hk
    split at hk
    · exact h.its k p hk
    · cases hk

theorem code_sound {cfg : Cfg} {fid : Nat} {call : Caller} (hm : Base P cfg) (hc : Sound P ql call) (n : Nat) : ∀ (c : Code) (hk : codeOk cfg fid c = true) {rd : Option Nat} {B : Nat} (hr : rd = none ∨ noR c = true) {Γ : Ctx} {s : St} {r : Ex × St} {a : Act}, Inv Γ B s a → evC P cfg fid call n c s = some r →
    ∀ {Q : Exit → Act → World → Prop}, (∀ Γ' a', Step ql B Γ Γ' → Inv Γ' B r.2 a' → Q (exitOf r.1) a' Γ'.w) → c.wpIn (Fr rd) 0 P Q a Γ.w := by
  intro c
  induction c with
  | skip =>
    intro hk rd B hr Γ s r a hI h Q hQ
    simp only [evC, Option.some.injEq] at h
    subst h
    exact wpIn_skip (hQ Γ a (Step.refl _ _) hI)
  | region id ops draw =>
    intro hk rd B hr Γ s r a hI h Q hQ
    simp only [evC] at h
    rw [Option.map_eq_some_iff] at h
    obtain ⟨s', hs, rfl⟩ := h
    exact region_sound hm.1 hc hI hk hs hQ
  | seq x y ihx ihy =>
    intro hk rd B hr Γ s r a hI h Q hQ
    simp only [evC, Option.bind_eq_some_iff] at h
    obtain ⟨⟨e, s1⟩, h1, h⟩ := h
    simp only [codeOk, Bool.and_eq_true] at hk
    simp only [noR, Bool.and_eq_true] at hr
    refine wpIn_seq (ihx hk.1 (hr.imp id fun h => h.1) hI h1 fun Γ' a' st hI' => ?_)
    cases e with
    | normal => exact ihy hk.2 (hr.imp id fun h => h.2) hI' h fun Γ'' a'' st' hI'' => hQ Γ'' a'' (st.trans st') hI''
    | exit id => simp only [Option.some.injEq] at h; subst h; exact hQ Γ' a' st hI'
    | ret => simp only [Option.some.injEq] at h; subst h; exact hQ Γ' a' st hI'
  | cond c x y ihx ihy =>
    intro hk rd B hr Γ s r a hI h Q hQ
    simp only [evC, Option.bind_eq_some_iff] at h
    obtain ⟨v, hv, h⟩ := h
    split at h
    · rename_i q
      have hq := ev_sound hI hv
      generalize he : a.eval c = u at hq
      cases hq
      simp only [codeOk, Bool.and_eq_true] at hk
      simp only [noR, Bool.and_eq_true] at hr
      refine wpIn_cond he ?_
      cases q
      · exact ihy hk.2 (hr.imp id fun h => h.2) hI h hQ
      · exact ihx hk.1 (hr.imp id fun h => h.1) hI h hQ
    · cases h
  | block id b ih =>
    intro hk rd B hr Γ s r a hI h Q hQ
    simp only [evC, Option.map_eq_some_iff] at h
    obtain ⟨⟨e, s1⟩, h1, h⟩ := h
    refine wpIn_block (ih hk hr hI h1 fun Γ' a' st hI' => ?_)
    cases e with
    | normal => subst h; exact hQ Γ' a' st hI'
    | exit i =>
      simp only at h
      simp only [exitOf, Exit.inBlock]
      split at h
      · rename_i hi; subst h; rw [if_pos hi]; exact hQ Γ' a' st hI'
      · rename_i hi; subst h; rw [if_neg hi]; exact hQ Γ' a' st hI'
    | ret => subst h; exact hQ Γ' a' st hI'
  | loop b ih =>
    intro hk rd B hr Γ s r a hI h Q hQ
    simp only [evC, loopA, Option.map_eq_some_iff] at h
    obtain ⟨r0, h, hr0⟩ := h
    refine wpIn_loop_rounds n ?_
    generalize cfg.keep fid (firstId b) = keep at h hr0
    have hQ0 : ∀ Γ' a', Step ql B Γ Γ' → Inv Γ' B r0.2 a' → Q (exitOf r0.1) a' Γ'.w := by
      intro Γ' a' st hI'
      obtain ⟨e, s1⟩ := r0
      cases e with
      | normal => subst hr0; exact hQ Γ' a' st hI'
      | exit i => subst hr0; obtain ⟨st', hI''⟩ := hI'.hav (ql := ql) keep; exact hQ (Γ'.hav keep) a' (st.trans st') hI''
      | ret => subst hr0; obtain ⟨st', hI''⟩ := hI'.hav (ql := ql) (cfg.res fid); exact hQ (Γ'.hav (cfg.res fid)) a' (st.trans st') hI''
    clear hQ hr0
    revert h hQ0
    generalize r0 = r
    intro h hQ
    have key : ∀ (m : Nat) {Γ : Ctx} {s : St} {a : Act}, Inv Γ B s a → iter (evC P cfg fid call n b) (St.hav keep) m s = some r → (∀ Γ' a', Step ql B Γ Γ' → Inv Γ' B r.2 a' → Q (exitOf r.1) a' Γ'.w) → Code.roundsIn (Fr rd) 0 P b Q m a Γ.w := by
      intro m
      induction m with
      | zero => intro Γ s a _ h; simp [iter] at h
      | succ m ihm =>
        intro Γ s a hI h hQ
        simp only [iter, Option.bind_eq_some_iff] at h
        obtain ⟨⟨e, s1⟩, h1, h⟩ := h
        obtain ⟨st0, hI0⟩ := hI.hav (ql := ql) keep
        rw [roundsIn_succ]
        refine ih hk hr (Γ := Γ.hav keep) hI0 h1 fun Γ' a' st hI' => ?_
        cases e with
        | normal => exact ihm hI' h fun Γ'' a'' st' hI'' => hQ Γ'' a'' ((st0.trans st).trans st') hI''
        | exit id => simp only [Option.some.injEq] at h; subst h; exact hQ Γ' a' (st0.trans st) hI'
        | ret => simp only [Option.some.injEq] at h; subst h; exact hQ Γ' a' (st0.trans st) hI'
    exact key n hI h hQ
  | exit id =>
    intro hk rd B hr Γ s r a hI h Q hQ
    simp only [evC, Option.some.injEq] at h
    subst h
    exact wpIn_exit (hQ Γ a (Step.refl _ _) hI)
  | ret =>
    intro hk rd B hr Γ s r a hI h Q hQ
    simp only [evC, Option.some.injEq] at h
    subst h
    exact wpIn_ret (hQ Γ a (Step.refl _ _) hI)
  | rangeFunc g ps assign body iha ihb =>
    intro hk rd B hr Γ s r a hI h Q hQ
    rcases hr with rfl | hr
    rotate_left
    · simp [noR] at hr
    simp only [evC, Option.bind_eq_some_iff, Option.map_eq_some_iff] at h
    obtain ⟨⟨ys, s1⟩, hit, ⟨e, gl'⟩, hr, rfl⟩ := h
    unfold iterA at hit
    rw [Option.bind_eq_some_iff] at hit
    obtain ⟨v, hv, hit⟩ := hit
    split at hit
    · rename_i f o
      simp only [Option.bind_eq_some_iff] at hit
      obtain ⟨cs, hcs, ⟨m, ys'⟩, hys, hit⟩ := hit
      split at hit
      · rename_i hc
        obtain ⟨hc1, hc2, rfl⟩ := hc
        simp only [Option.some.injEq, Prod.mk.injEq] at hit
        obtain ⟨rfl, rfl⟩ := hit
        simp only [codeOk, Bool.and_eq_true] at hk
        exact range_sound hI hv hcs (by rintro rfl; simp at hc1) (hm.2 _ _ _ _ hys) (fun hI h _ hQ => iha hk.1.1.1 (.inr hk.1.2) hI h hQ) (fun hI h _ hQ => ihb hk.1.1.2 (.inr hk.2) hI h hQ) hr hQ
      · cases hit
    · cases hit
  | _ => intro hk rd B hr Γ s r a hI h; simp [evC] at h

/-! what is shared below 'ro' stays as it is -/
def RoOk (call : Caller) : Prop := ∀ f args ro gl r, call f args ro gl = some r → ro ≤ gl.length → r.2.take ro = gl.take ro ∧ ro ≤ r.2.length
/-- The shared objects that a state may not write are those of another. -/
def Kept (s s' : St) : Prop := s'.gl.take s.ro = s.gl.take s.ro ∧ s'.ro = s.ro ∧ s.ro ≤ s'.gl.length
theorem Kept.trans {a b c : St} (h : Kept a b) (k : Kept b c) : Kept a c := ⟨by rw [← h.2.1]; rw [k.1, h.2.1, h.1], k.2.1.trans h.2.1, by rw [← h.2.1]; exact k.2.2⟩
theorem take_set_le {α : Type} : ∀ (l : List α) (o n : Nat) (x : α), n ≤ o → (l.set o x).take n = l.take n
  | [], _, _, _, _ => rfl
  | a :: l, o, 0, x, _ => by simp
  | a :: l, 0, n + 1, x, h => by omega
  | a :: l, o + 1, n + 1, x, h => by simp only [List.set_cons_succ, List.take_succ_cons]; rw [take_set_le l o n x (by omega)]
theorem put_kept {s : St} (hro : s.ro ≤ s.gl.length) (d : Option Nat) (v : V) : Kept s (s.put d v) := ⟨by rw [put_gl], put_ro _ _ _, by rw [put_gl]; exact hro⟩
theorem opA_ro {cfg : Cfg} {fid : Nat} {call : Caller} (hc : RoOk call) {s s' : St} {o : Oper} (hro : s.ro ≤ s.gl.length) (h : opA P cfg fid call s o = some s') : Kept s s' := by
  have keep : ∀ (d : Option Nat) (v : V), Kept s (s.put d v) := put_kept hro
  have mild : ∀ {d : Option Nat}, Mild s s' d → Kept s s' := fun h => ⟨(h.gl hro).1, h.ro, (h.gl hro).2⟩
  have calm' : (calmA P s o.op).map (fun v => s.put o.dst v) = some s' → Kept s s' := by
    intro h
    rw [Option.map_eq_some_iff] at h
    obtain ⟨x, hx, rfl⟩ := h
    exact keep _ _
  have newvar : ∀ (d : Nat) (cs : List W), (if cfg.esc fid d then (lodges cs).map fun cs => { (s.put o.dst (.c (.w (.glo s.gl.length 0)))) with gl := s.gl ++ [cs] }
        else match look s.bx d, look s.it d with | none, none => some { (s.put o.dst (.c (.w (.box d 0)))) with bx := upd s.bx d cs } | _, _ => none) = some s' → Kept s s' := by
    intro d cs h
    split at h
    · rw [Option.map_eq_some_iff] at h
      obtain ⟨cs', _, rfl⟩ := h
      have := keep o.dst (.c (.w (.glo s.gl.length 0)))
      refine ⟨?_, this.2.1, by simp; omega⟩
      show (s.gl ++ [cs']).take s.ro = _
      rw [List.take_append_of_le_length hro]
    · split at h
      · cases h; exact keep _ _
      · cases h
  unfold opA at h
  split at h
  · simp only [Option.bind_eq_some_iff] at h
    obtain ⟨z, hz, d, hd, h⟩ := h
    exact newvar d _ h
  · simp only [Option.bind_eq_some_iff] at h
    obtain ⟨d, hd, v, hv, h⟩ := h
    split at h
    · cases h; exact keep _ _
    · cases h
  · rw [Option.bind_eq_some_iff] at h
    obtain ⟨v, hv, h⟩ := h
    split at h
    · rw [Option.bind_eq_some_iff] at h
      obtain ⟨p, hp, h⟩ := h
      split at h
      · cases h; exact keep _ _
      · cases h; exact keep _ _
    · cases h
  · simp only [Option.bind_eq_some_iff] at h
    obtain ⟨v, hv, c, hcv, d, hd, h⟩ := h
    by_cases hf : cfg.frz fid d = true
    · rw [if_pos hf, Option.map_eq_some_iff] at h
      obtain ⟨ds, hds, rfl⟩ := h
      exact keep _ _
    · rw [if_neg hf] at h
      exact newvar d _ h
  · rw [Option.bind_eq_some_iff] at h
    obtain ⟨v, hv, h⟩ := h
    split at h
    · simp only [Option.bind_eq_some_iff] at h
      obtain ⟨v', hv', c, hcv, n, hn, h⟩ := h
      split at h
      · rw [Option.map_eq_some_iff] at h
        obtain ⟨s2, hs2, rfl⟩ := h
        unfold St.storeW at hs2
        split at hs2
        · simp only [Option.bind_eq_some_iff, Option.map_eq_some_iff] at hs2
          obtain ⟨cs, hcs, cs', hp', rfl⟩ := hs2
          have := keep o.dst V.un
          exact ⟨by rw [put_gl], put_ro _ _ _, by rw [put_gl]; exact hro⟩
        · split at hs2
          · cases hs2
          · rename_i hfl
            simp only [Option.bind_eq_some_iff, Option.map_eq_some_iff] at hs2
            obtain ⟨cs, hcs, cs', hp', cs2, hp2, rfl⟩ := hs2
            refine ⟨?_, put_ro _ _ _, ?_⟩
            · rw [put_gl]
              exact take_set_le _ _ _ _ (by omega)
            · rw [put_gl]
              simpa using hro
        · cases hs2
      · cases h
    · cases h
  · split at h
    · split at h
      · simp only [Option.bind_eq_some_iff] at h
        obtain ⟨v, hv, v', hv', d, hd, h⟩ := h
        exact mild (appendM_mild h)
      · cases h
    · cases h
  · simp only [Option.bind_eq_some_iff] at h
    obtain ⟨vl, hvl, il, hil, vc, hvc, ic, hic, h⟩ := h
    exact mild (make_mild h)
  · split at h
    · simp only [Option.bind_eq_some_iff] at h
      obtain ⟨v, hv, v', hv', h⟩ := h
      exact mild (copy_mild h)
    · cases h
  · split at h
    · simp only [Option.bind_eq_some_iff] at h
      obtain ⟨v, hv, h⟩ := h
      exact mild (clear_mild h)
    · cases h
  · rw [Option.bind_eq_some_iff] at h
    obtain ⟨v, hv, h⟩ := h
    split at h
    · simp only [Option.bind_eq_some_iff] at h
      obtain ⟨vs, hvs, h⟩ := h
      unfold callA at h
      simp only [Option.bind_eq_some_iff] at h
      obtain ⟨cs0, hcs0, cs, hcs, h⟩ := h
      split at h
      · rw [Option.bind_eq_some_iff] at h
        obtain ⟨r, hr, h⟩ := h
        split at h
        · cases h; exact keep _ _
        · cases h
      · rw [Option.map_eq_some_iff] at h
        obtain ⟨r, hr, rfl⟩ := h
        obtain ⟨k1, k2⟩ := hc _ _ _ _ _ hr hro
        exact ⟨k1, put_ro _ _ _, k2⟩
    · cases h
  · exact calm' h
theorem opsA_ro {cfg : Cfg} {fid : Nat} {call : Caller} (hc : RoOk call) {ops : List Oper} : ∀ (l : List Oper) {s s' : St}, s.ro ≤ s.gl.length → opsA P cfg fid call ops l s = some s' → Kept s s'
  | [], s, s', hro, h => by simp only [opsA, Option.some.injEq] at h; subst h; exact ⟨rfl, rfl, hro⟩
  | o :: l, s, s', hro, h => by
    simp only [opsA, Option.bind_eq_some_iff] at h
    obtain ⟨s1, h1, h⟩ := h
    unfold stepA at h1
    rw [Option.bind_eq_some_iff] at h1
    obtain ⟨q, hq, h1⟩ := h1
    have k : Kept s s1 := by
      cases q with
      | true => exact opA_ro hc hro h1
      | false => simp only [Option.some.injEq] at h1; subst h1; exact put_kept hro _ _
    exact k.trans (opsA_ro hc l (by rw [k.2.1]; exact k.2.2) h)
theorem evC_ro {cfg : Cfg} {fid : Nat} {call : Caller} (hc : RoOk call) (n : Nat) : ∀ (c : Code) {s : St} {r : Ex × St}, s.ro ≤ s.gl.length → evC P cfg fid call n c s = some r → Kept s r.2 := by
  intro c
  induction c with
  | skip => intro s r hro h; simp only [evC, Option.some.injEq] at h; subst h; exact ⟨rfl, rfl, hro⟩
  | region id ops draw =>
    intro s r hro h
    simp only [evC] at h
    rw [Option.map_eq_some_iff] at h
    obtain ⟨s', hs, rfl⟩ := h
    cases hl : litOf cfg fid ops.toList with
    | none => exact opsA_ro hc _ hro (regA_opsA hl hs)
    | some q =>
      obtain ⟨d, t, len, parts, r⟩ := q
      rw [hl] at hs
      simp only [Option.bind_eq_some_iff] at hs
      obtain ⟨s1, h1, h2⟩ := hs
      have hm := buildG_mild h1
      have k : Kept s s1 := ⟨(hm.gl hro).1, hm.ro, (hm.gl hro).2⟩
      exact k.trans (opsA_ro hc r (by rw [k.2.1]; exact k.2.2) h2)
  | seq x y ihx ihy =>
    intro s r hro h
    simp only [evC, Option.bind_eq_some_iff] at h
    obtain ⟨⟨e, s1⟩, h1, h⟩ := h
    have k1 := ihx hro h1
    cases e with
    | normal => exact k1.trans (ihy (by rw [k1.2.1]; exact k1.2.2) h)
    | exit id => simp only [Option.some.injEq] at h; subst h; exact k1
    | ret => simp only [Option.some.injEq] at h; subst h; exact k1
  | cond c x y ihx ihy =>
    intro s r hro h
    simp only [evC, Option.bind_eq_some_iff] at h
    obtain ⟨v, hv, h⟩ := h
    split at h
    · split at h
      · exact ihx hro h
      · exact ihy hro h
    · cases h
  | block id b ih =>
    intro s r hro h
    simp only [evC, Option.map_eq_some_iff] at h
    obtain ⟨⟨e, s1⟩, h1, h⟩ := h
    have k := ih hro h1
    cases e with
    | normal => subst h; exact k
    | ret => subst h; exact k
    | exit i =>
      simp only at h
      split at h <;> (subst h; exact k)
  | loop b ih =>
    intro s r hro h
    simp only [evC, loopA, Option.map_eq_some_iff] at h
    obtain ⟨r0, h, hr⟩ := h
    generalize cfg.keep fid (firstId b) = keep at h hr
    have hr2 : r.2.gl = r0.2.gl ∧ r.2.ro = r0.2.ro := by
      obtain ⟨e, s1⟩ := r0
      cases e <;> (subst hr; exact ⟨rfl, rfl⟩)
    suffices hk : Kept s r0.2 from ⟨by rw [hr2.1]; exact hk.1, by rw [hr2.2]; exact hk.2.1, by rw [hr2.1]; exact hk.2.2⟩
    clear hr2 hr
    revert h
    generalize r0 = r
    intro h
    have key : ∀ (m : Nat) {s : St}, s.ro ≤ s.gl.length → iter (evC P cfg fid call n b) (St.hav keep) m s = some r → Kept s r.2 := by
      intro m
      induction m with
      | zero => intro s _ h; simp [iter] at h
      | succ m ihm =>
        intro s hro h
        simp only [iter, Option.bind_eq_some_iff] at h
        obtain ⟨⟨e, s1⟩, h1, h⟩ := h
        have k1 : Kept s s1 := ih (s := s.hav keep) hro h1
        cases e with
        | normal => exact k1.trans (ihm (by rw [k1.2.1]; exact k1.2.2) h)
        | exit id => simp only [Option.some.injEq] at h; subst h; exact k1
        | ret => simp only [Option.some.injEq] at h; subst h; exact k1
    exact key n hro h
  | rangeFunc g ps assign body iha ihb =>
    intro s r hro h
    simp only [evC, Option.bind_eq_some_iff, Option.map_eq_some_iff] at h
    obtain ⟨⟨ys, s1⟩, hit, ⟨e, gl'⟩, hr, rfl⟩ := h
    unfold iterA at hit
    rw [Option.bind_eq_some_iff] at hit
    obtain ⟨v, hv, hit⟩ := hit
    split at hit
    · rename_i f o
      simp only [Option.bind_eq_some_iff] at hit
      obtain ⟨cs, hcs, ⟨m, ys'⟩, hys, hit⟩ := hit
      split at hit
      · rename_i hc
        obtain ⟨hc1, hc2, rfl⟩ := hc
        simp only [Option.some.injEq, Prod.mk.injEq] at hit
        obtain ⟨rfl, rfl⟩ := hit
        have key : ∀ (ys : List (List C)) (gl : List (List W)), s.ro ≤ gl.length → rangeA (roundA (evC P cfg fid call n assign) (evC P cfg fid call n body) ps.toList { s with gl := s.gl.set o [] }) ys gl = some (e, gl') → gl'.take s.ro = gl.take s.ro ∧ s.ro ≤ gl'.length := by
          intro ys
          induction ys with
          | nil => intro gl hgl h; simp only [rangeA, Option.some.injEq, Prod.mk.injEq] at h; obtain ⟨_, rfl⟩ := h; exact ⟨rfl, hgl⟩
          | cons y ys ih =>
            intro gl hgl h
            simp only [rangeA, Option.bind_eq_some_iff] at h
            obtain ⟨⟨e1, gl1⟩, hR, h⟩ := h
            have k1 : gl1.take s.ro = gl.take s.ro ∧ s.ro ≤ gl1.length := by
              unfold roundA at hR
              simp only [Option.bind_eq_some_iff] at hR
              obtain ⟨⟨ea, s1⟩, hA, hR⟩ := hR
              have kA := iha hgl hA
              cases ea with
              | exit id => cases hR
              | ret => cases hR
              | normal =>
                simp only [Option.map_eq_some_iff, Prod.mk.injEq] at hR
                obtain ⟨⟨eb, s2⟩, hB, rfl, rfl⟩ := hR
                have kB := kA.trans (ihb (by rw [kA.2.1]; exact kA.2.2) hB)
                exact ⟨kB.1, kB.2.2⟩
            cases e1 with
            | normal => obtain ⟨k2, k3⟩ := ih gl1 k1.2 h; exact ⟨k2.trans k1.1, k3⟩
            | exit id => simp only [Option.some.injEq, Prod.mk.injEq] at h; obtain ⟨_, rfl⟩ := h; exact k1
            | ret => simp only [Option.some.injEq, Prod.mk.injEq] at h; obtain ⟨_, rfl⟩ := h; exact k1
        obtain ⟨k1, k2⟩ := key _ _ (by simpa using hro) hr
        exact ⟨by rw [k1]; exact take_set_le _ _ _ _ hc2, rfl, k2⟩
      · cases hit
    · cases hit
  | exit id => intro s r hro h; simp only [evC, Option.some.injEq] at h; subst h; exact ⟨rfl, rfl, hro⟩
  | ret => intro s r hro h; simp only [evC, Option.some.injEq] at h; subst h; exact ⟨rfl, rfl, hro⟩
  | _ => intro s r hro h; simp [evC] at h

/-! functions -/
def resOne (tmps : Array Value) : ResultVar → Sem Value
  | .tmp t => pure (tmps.getD t undef)
  | .cell ad t => do loadVar t (← asAddr (tmps.getD ad undef))
theorem results_eq (fn : Func) (tmps : Array Value) : results fn tmps = (do let vs ← fn.results.mapM (resOne tmps); pure (if h : vs.size = 1 then vs[0] else .tuple vs)) := by
  unfold results
  congr 2
theorem results_sound {Γ : Ctx} {B : Nat} {s : St} {a : Act} (hI : Inv Γ B s a) : ∀ (l : List ResultVar) (cs : List C), resA P s l = some cs →
    ∃ vs : List Value, (l.mapM (resOne a.tmps)).run P Γ.w = .ok vs Γ.w ∧ All2 (fun v c => RC Γ v c) vs cs
  | [], cs, h => by simp only [resA, Option.some.injEq] at h; subst h; exact ⟨[], by simp, All2.nil⟩
  | .tmp t :: r, cs, h => by
    simp only [resA, Option.bind_eq_some_iff, Option.map_eq_some_iff] at h
    obtain ⟨c, hc, b, hb, rfl⟩ := h
    obtain ⟨vs, hr, hv⟩ := results_sound hI r b hb
    refine ⟨a.tmps.getD t undef :: vs, ?_, All2.cons (comp_sound (get_sound hI t) hc).1 hv⟩
    simp only [List.mapM_cons, resOne, Sem.run_bind, Sem.run_pure, Result.andThen_ok, hr]
  | .cell ad t :: r, cs, h => by
    simp only [resA, Option.bind_eq_some_iff, Option.map_eq_some_iff] at h
    obtain ⟨c, hc, b, hb, rfl⟩ := h
    obtain ⟨vs, hr, hv⟩ := results_sound hI r b hb
    obtain ⟨p, hp, u, hu, hcu⟩ := loadC_sound hI (get_sound hI ad) hc
    refine ⟨u :: vs, ?_, All2.cons hcu hv⟩
    have h1 : (resOne a.tmps (.cell ad t)).run P Γ.w = .ok u Γ.w := by simp only [resOne, hp, asAddr, Sem.run_bind, Sem.run_pure, Result.andThen_ok, hu]
    rw [List.mapM_cons, Sem.run_bind, h1, Result.andThen_ok, Sem.run_bind, hr]
    rfl

theorem expoCs_sound2 {Γ : Ctx} : ∀ {vs : List Value} {xs ys : List C}, All2 (fun v c => RC Γ v c) vs xs → expoCs xs = some ys → All2 (fun v c => RC Γ.calm v c) vs ys
  | vs, [], ys, h, hx => by simp only [expoCs, Option.some.injEq] at hx; subst hx; rw [h.nil_iff]; exact All2.nil
  | vs, x :: r, ys, h, hx => by
    simp only [expoCs, Option.bind_eq_some_iff, Option.map_eq_some_iff] at hx
    obtain ⟨c, hc, b, hb, rfl⟩ := hx
    obtain ⟨v, vs', rfl, h1, h2⟩ := h.uncons
    obtain ⟨k1, k2⟩ := cexpo_sound h1 hc
    exact All2.cons (RC.calm k1 k2) (expoCs_sound2 h2 hb)

def V.below (n : Nat) : V → Bool
  | .c x => x.below n
  | .tup xs => xs.all (C.below n)
def dropOwn (n m : Nat) : Option Owner → Option Owner
  | some (.glo o) => if n ≤ o ∧ o < m then none else some (.glo o)
  | x => x
/-- Objects from n on are nobody's; what lay in them stays. -/
def Ctx.drop (Γ : Ctx) (n : Nat) : Ctx := { Γ with ng := n, F := fun a => Γ.F a ∨ ∃ o, n ≤ o ∧ o < Γ.ng ∧ Γ.own a.block = some (.glo o), own := fun g => dropOwn n Γ.ng (Γ.own g) }
theorem Ctx.drop_F {Γ : Ctx} {n : Nat} {a : Addr} (h : Γ.F a) : (Γ.drop n).F a := .inl h
theorem RD.drop {Γ : Ctx} {n : Nat} {v : Value} {d : D} (h : RD Γ.F Γ.w v d) : RD (Γ.drop n).F Γ.w v d := h.mono fun a ha => ⟨Ctx.drop_F ha, rfl⟩
theorem RW.below {Γ : Ctx} {v : Value} {x : W} (h : RW Γ v x) : x.below Γ.ng = true := by
  cases x <;> try rfl
  · simpa [W.below] using h.2
  · simp only [W.below, List.all_eq_true, decide_eq_true_eq]
    exact h.2
  · obtain ⟨c, _, _, _, _, _, h⟩ := h
    simpa [W.below] using h
theorem RW.drop {Γ : Ctx} {n : Nat} {v : Value} {x : W} (h : RW Γ v x) (hb : x.below n = true) : RW (Γ.drop n) v x := by
  cases x
  case d => exact RD.drop h
  case full => exact ⟨RD.drop h.1, h.2⟩
  case app => exact ⟨RD.drop h.1, h.2⟩
  case ref =>
    obtain ⟨a, rfl, vs, h⟩ := h
    exact ⟨a, rfl, vs, fun j d hj => ⟨Ctx.drop_F (h j d hj).1, (h j d hj).2.1, RD.drop (h j d hj).2.2⟩⟩
  case glo => simp only [W.below, decide_eq_true_eq] at hb; exact ⟨h.1, hb⟩
  case gsl => simp only [W.below, decide_eq_true_eq] at hb; obtain ⟨c, h1, h2, h3, h4, h5, _⟩ := h; exact ⟨c, h1, h2, h3, h4, h5, hb⟩
  case fn => simp only [W.below, List.all_eq_true, decide_eq_true_eq] at hb; exact ⟨h.1, hb⟩
  all_goals exact h
theorem RC.drop {Γ : Ctx} {n : Nat} {v : Value} {x : C} (h : RC Γ v x) (hb : x.below n = true) : RC (Γ.drop n) v x := by
  cases x with
  | w x => exact RW.drop h hb
  | agg xs =>
    obtain ⟨cs, rfl, h1, h2⟩ := h
    simp only [C.below, List.all_eq_true] at hb
    exact ⟨cs, rfl, ⟨h1.1, fun i a b ha hb' => RW.drop (h1.2 i a b ha hb') (hb b (List.mem_of_getElem? hb'))⟩, h2⟩
theorem mapO_get {α β : Type} {f : α → Option β} : ∀ {xs : List α} {ys : List β}, mapO f xs = some ys → xs.length = ys.length ∧ ∀ (i : Nat) x y, xs[i]? = some x → ys[i]? = some y → f x = some y
  | [], ys, h => by simp only [mapO, Option.some.injEq] at h; subst h; exact ⟨rfl, by simp⟩
  | x :: r, ys, h => by
    simp only [mapO, Option.bind_eq_some_iff, Option.map_eq_some_iff] at h
    obtain ⟨a, ha, b, hb, rfl⟩ := h
    obtain ⟨h1, h2⟩ := mapO_get hb
    refine ⟨by simp [h1], fun i x' y hx hy => ?_⟩
    cases i with
    | zero => simp at hx hy; subst hx; subst hy; exact ha
    | succ i => exact h2 i x' y (by simpa using hx) (by simpa using hy)
theorem shut_sound {Γ : Ctx} {B : Nat} {s : St} {a : Act} (hI : Inv Γ B s a) {b : Nat} : ∀ (n : Nat) {v : Value} {x : W} {d : D}, RW Γ v x → W.shut s.gl b n x = some d → RD (Γ.drop b).F Γ.w v d
  | 0, v, x, d, h, hx => RD.drop (close_sound h hx)
  | n + 1, v, x, d, h, hx => by
    unfold W.shut at hx
    split at hx
    · rename_i o off k m z
      split at hx
      · rename_i hc
        simp only [Option.bind_eq_some_iff, Option.map_eq_some_iff] at hx
        obtain ⟨cs, hcs, ws, hws, ds, hds, rfl⟩ := hx
        obtain ⟨c, rfl, h1, h2, h3, h4, h5⟩ := h
        obtain ⟨g1, g2⟩ := mapO_get hds
        obtain ⟨q1, q2, q3⟩ := cut_spec hws
        by_cases hk0 : k * z = 0
        · have hds0 : ds = [] := List.eq_nil_of_length_eq_zero (by rw [← g1, q3, hk0])
          subst hds0
          refine .sl _ _ _ z _ (fun _ _ => undef) (chunk_len z k []) (by omega) h3 (fun e => by cases e) (fun i y hy => ?_) (fun ad _ i j hi hj => ?_) (fun i j y d hy hd => ?_)
          · rw [chunk_get z k [] i y hy]
            have hi : i < k := by have := (List.getElem?_eq_some_iff.1 hy).1; rwa [chunk_len] at this
            rcases Nat.mul_eq_zero.1 hk0 with h0 | h0
            · omega
            · simp [h0]
          · rcases Nat.mul_eq_zero.1 hk0 with h0 | h0 <;> omega
          · rw [chunk_get z k [] i y hy] at hd
            simp at hd
        have hce : cs ≠ [] := by
          rintro rfl
          simp at q1
          omega
        obtain ⟨us, ty, e1, e3, e4, e5, e6, e7⟩ := hI.globs o cs hcs hce
        have hle : cs.length ≤ us.size := by have := e3.1; simp at this; omega
        have hcell : ∀ j, j < k * z → Γ.w.cell? ⟨Γ.glo o, off + j, none⟩ = some (us.getD (off + j) undef) := fun j hj => by
          rw [cell_of_heap e1, Array.getD_eq_getD_getElem?, Array.getElem?_eq_getElem (by omega)]
          rfl
        have hij : ∀ i j, i < k → j < z → i * z + j < k * z := fun i j hi hj => by
          have : (i + 1) * z ≤ k * z := Nat.mul_le_mul_right _ hi
          rw [Nat.add_mul] at this
          omega
        refine .sl _ _ _ z _ (fun i j => us.getD (off + (i * z + j)) undef) (chunk_len z k ds) (by omega) h3 (fun e => by cases e) (fun i y hy => ?_) (fun ad had i j hi hj => ?_) (fun i j y d hy hd => ?_)
        · have hi : i < k := by have := (List.getElem?_eq_some_iff.1 hy).1; rwa [chunk_len] at this
          rw [chunk_get z k ds i y hy]
          have : (i + 1) * z ≤ k * z := Nat.mul_le_mul_right _ hi
          rw [Nat.add_mul] at this
          simp only [List.length_take, List.length_drop, ← g1, q3]
          omega
        · cases had
          rw [add_plain, hcell _ (hij i j hi hj)]
          exact ⟨.inr ⟨o, hc.1, h5, e4⟩, rfl⟩
        · have hi : i < k := by have := (List.getElem?_eq_some_iff.1 hy).1; rwa [chunk_len] at this
          have hy' := chunk_get z k ds i y hy
          subst hy'
          rw [List.getElem?_take] at hd
          split at hd
          · rename_i hj
            rw [List.getElem?_drop] at hd
            have hlt := hij i j hi hj
            have hwl : i * z + j < ws.length := by rw [q3]; exact hlt
            have hw : ws[i * z + j]? = some ws[i * z + j] := List.getElem?_eq_getElem hwl
            have hsh := g2 _ _ _ hw hd
            have hcw : cs[off + (i * z + j)]? = some ws[i * z + j] := by rw [← cut_get hws hlt]; exact hw
            have hut : (us.toList.take cs.length)[off + (i * z + j)]? = some (us.getD (off + (i * z + j)) undef) := by
              rw [List.getElem?_take_of_lt (by omega), Array.getElem?_toList, Array.getD_eq_getD_getElem?, Array.getElem?_eq_getElem (by omega)]
              rfl
            exact shut_sound hI n (e3.2 _ _ _ hut hcw) hsh
          · cases hd
      · cases hx
    · exact RD.drop (close_sound h hx)
theorem settle_sound {Γ : Ctx} {B : Nat} {s : St} {a : Act} (hI : Inv Γ B s a) {b : Nat} {v : Value} {x y : W} (h : RW Γ v x) (hx : W.settle s.gl b x = some y) (hy : y.below b = true) : RW (Γ.drop b) v y := by
  unfold W.settle at hx
  split at hx
  · split at hx
    · cases hx; exact RW.drop h hy
    · rw [Option.map_eq_some_iff] at hx
      obtain ⟨d, hd, rfl⟩ := hx
      exact shut_sound hI 3 h hd
  · cases hx; exact RW.drop h hy
theorem settles_sound {Γ : Ctx} {B : Nat} {s : St} {a : Act} (hI : Inv Γ B s a) {b : Nat} : ∀ {vs : List Value} {xs ys : List W}, All2 (RW Γ) vs xs → settles s.gl b xs = some ys → ys.all (W.below b) = true → All2 (RW (Γ.drop b)) vs ys
  | vs, [], ys, h, hx, _ => by simp only [settles, Option.some.injEq] at hx; subst hx; rw [h.nil_iff]; exact All2.nil
  | vs, x :: r, ys, h, hx, hy => by
    simp only [settles, Option.bind_eq_some_iff, Option.map_eq_some_iff] at hx
    obtain ⟨c, hc, q, hq, rfl⟩ := hx
    obtain ⟨v, vs', rfl, h1, h2⟩ := h.uncons
    simp only [List.all_cons, Bool.and_eq_true] at hy
    exact All2.cons (settle_sound hI h1 hc hy.1) (settles_sound hI h2 hq hy.2)
theorem csettle_sound {Γ : Ctx} {B : Nat} {s : St} {a : Act} (hI : Inv Γ B s a) {b : Nat} {v : Value} {x y : C} (h : RC Γ v x) (hx : C.settle s.gl b x = some y) (hy : y.below b = true) : RC (Γ.drop b) v y := by
  cases x with
  | w x =>
    simp only [C.settle, Option.map_eq_some_iff] at hx
    obtain ⟨q, hq, rfl⟩ := hx
    exact settle_sound hI h hq hy
  | agg xs =>
    simp only [C.settle, Option.map_eq_some_iff] at hx
    obtain ⟨q, hq, rfl⟩ := hx
    obtain ⟨cs, rfl, h1, h2⟩ := h
    exact ⟨cs, rfl, settles_sound hI h1 hq hy, h2⟩
theorem settleCs_sound {Γ : Ctx} {B : Nat} {s : St} {a : Act} (hI : Inv Γ B s a) {b : Nat} : ∀ {vs : List Value} {xs ys : List C}, All2 (RC Γ) vs xs → settleCs s.gl b xs = some ys → ys.all (C.below b) = true → All2 (RC (Γ.drop b)) vs ys
  | vs, [], ys, h, hx, _ => by simp only [settleCs, Option.some.injEq] at hx; subst hx; rw [h.nil_iff]; exact All2.nil
  | vs, x :: r, ys, h, hx, hy => by
    simp only [settleCs, Option.bind_eq_some_iff, Option.map_eq_some_iff] at hx
    obtain ⟨c, hc, q, hq, rfl⟩ := hx
    obtain ⟨v, vs', rfl, h1, h2⟩ := h.uncons
    simp only [List.all_cons, Bool.and_eq_true] at hy
    exact All2.cons (csettle_sound hI h1 hc hy.1) (settleCs_sound hI h2 hq hy.2)
theorem pack_settle {Γ : Ctx} {v : Value} {xs ys : List C} (h : RV Γ v (packRes xs)) (hl : xs.length = ys.length) (Γ' : Ctx) (k : ∀ vs : List Value, All2 (RC Γ) vs xs → All2 (RC Γ') vs ys) : RV Γ' v (packRes ys) := by
  match xs, ys, hl with
  | [], [], _ => obtain ⟨vs, rfl, h1⟩ := h; exact ⟨vs, rfl, k _ h1⟩
  | [x], [y], _ => have := k [v] (All2.cons h All2.nil); exact this.2 0 v y rfl rfl
  | x :: x' :: r, y :: y' :: r', _ => obtain ⟨vs, rfl, h1⟩ := h; exact ⟨vs, rfl, k _ h1⟩
theorem Inv.drop {Γ : Ctx} {B n : Nat} {x y : V} {gl gl0 : List (List W)} {ro ro' : Nat} {a : Act} (h : Inv Γ B { sl := [x], bx := [], tk := [], gl := gl, ro } a) (hn : gl0.length = n) (hg : gl.take n = gl0) (hx : ∀ v, RV Γ v x → RV (Γ.drop n) v y) (hc : ∀ cs ∈ gl0, ∀ c ∈ cs, W.below n c = true) :
    Inv (Γ.drop n) B { sl := [y], bx := [], tk := [], gl := gl0, ro := ro' } a := by
  have hgn : n ≤ gl.length := by rw [← hn, ← hg]; simp; omega
  refine ⟨h.defers.go fun D e _ => ⟨rfl, by show dropOwn n Γ.ng (Γ.own D) = _; rw [e]; rfl⟩, h.size, fun i v y' hv hy => ?_, h.len, h.bl, hn.symm, fun k cs hk => by simp [look] at hk, fun k t hk => by simp [look] at hk, fun o cs ho hce => ?_, fun ad had => ?_, fun g hg => ?_, h.base, fun k p hk => by simp [look] at hk⟩
  · have hi : i = 0 := by
      have := (List.getElem?_eq_some_iff.1 hy).1
      simpa using this
    subst hi
    simp only [List.getElem?_cons_zero, Option.some.injEq] at hy
    subst hy
    exact hx v (h.slots 0 v x hv rfl)
  · have hon : o < n := by rw [← hn]; exact (List.getElem?_eq_some_iff.1 ho).1
    have ho' : gl[o]? = some cs := by
      rw [← hg, List.getElem?_take_of_lt hon] at ho
      exact ho
    obtain ⟨us, ty, e1, e3, e4, e5, e6⟩ := h.globs o cs ho' hce
    refine ⟨us, ty, e1, ⟨e3.1, fun i u b hu hb => RW.drop (e3.2 i u b hu hb) (hc cs (List.mem_of_getElem? ho) b (List.mem_of_getElem? hb))⟩, ?_, e5, e6⟩
    show dropOwn n Γ.ng (Γ.own (Γ.glo o)) = _
    rw [e4]
    simp only [dropOwn]
    rw [if_neg (by omega)]
  · rcases had with had | ⟨o, h1, h2, h3⟩
    · obtain ⟨e1, e2⟩ := h.fix ad had
      refine ⟨e1, ?_⟩
      show dropOwn n Γ.ng (Γ.own ad.block) = _ ∨ ∃ k, dropOwn n Γ.ng (Γ.own ad.block) = _
      rcases e2 with e2 | ⟨k, e2⟩
      · rw [e2]; exact .inl rfl
      · rw [e2]; exact .inr ⟨k, rfl⟩
    · refine ⟨h.ownlt _ (by rw [h3]; simp), .inl ?_⟩
      show dropOwn n Γ.ng (Γ.own ad.block) = _
      rw [h3]
      simp only [dropOwn]
      rw [if_pos ⟨h1, h2⟩]
  · refine h.ownlt g fun e => hg ?_
    show dropOwn n Γ.ng (Γ.own g) = _
    rw [e]
    rfl
theorem below_pack {n : Nat} : ∀ {cs : List C}, cs.all (C.below n) = true → (packRes cs).below n = true
  | [], _ => rfl
  | [c], h => by simpa [packRes, V.below] using h
  | c :: d :: r, h => h

/-- A call takes the marks that its loops over functions have left. -/
theorem leave_marks {n : Nat} {fn : Func} {tmps : Array Value} {R : Ending → World → Prop} {B : Nat} {Γ0 : Ctx} {s : St} (fin : ∀ {Γ : Ctx}, Step ql B Γ0 Γ → Inv Γ B s { tmps, defers := [] } → LeavesIn (Fr none) n P fn tmps R [] .returning Γ.w) :
    ∀ (ds : List Nat) {Γ : Ctx}, Step ql B Γ0 Γ → Inv Γ B s { tmps, defers := [] } → ds.Nodup → (∀ D ∈ ds, Γ.w.heap[D]? = some (.deferred (some [])) ∧ B ≤ D ∧ Γ.own D = some .mark) → LeavesInM (Fr none) n P fn tmps R (ds.map markD) .returning Γ.w
  | [], Γ, st, hI, _, _ => fin st hI
  | D :: ds, Γ, st, hI, hnd, hds => by
    obtain ⟨e1, e2, e3⟩ := hds D (by simp)
    obtain ⟨k1, k2⟩ := hI.setMark (ql := ql) (B0 := B) (.inl rfl) e2 e3 (.deferred none)
    rw [List.nodup_cons] at hnd
    refine ⟨by simp, .inl ⟨D, _, rfl, run_takeDeferred e1, leave_marks fin ds (Γ := { Γ with w := Γ.w.putObj D (.deferred none) }) (st.trans k1) k2 hnd.2 fun D' hD' => ?_⟩⟩
    obtain ⟨f1, f2, f3⟩ := hds D' (by simp [hD'])
    exact ⟨(World.putObj_heap_other (by rintro rfl; exact hnd.1 hD')).trans f1, f2, f3⟩

theorem body_sound {cfg : Cfg} {fid : Nat} {call : Caller} (hm : Base P cfg) (hc : Sound P ql call) (n : Nat) {fn : Func} (hf : P.funcs[fid]? = some fn) (hok : fnOk cfg fid fn = true) {args : List C} {ro : Nat} {gl : List (List W)} {r : V × List (List W)}
    (h : bodyA P cfg fid call n fn args ro gl = some r) {Γ : Ctx} {vals : List Value} (hI : Inv Γ Γ.w.heap.size { sl := args.map .c, bx := [], tk := [], gl, ro } { tmps := vals.toArray, defers := [] }) :
    Calls P fid vals.toArray Γ.w fun e w' => ∃ (Γ' : Ctx) (v : Value), e = .returned v ∧ Γ'.w = w' ∧ Step ql Γ.w.heap.size Γ Γ' ∧ Inv Γ' Γ.w.heap.size { sl := [r.1], bx := [], tk := [], gl := r.2, ro } { tmps := #[v], defers := [] } := by
  unfold bodyA at h
  simp only [Option.bind_eq_some_iff] at h
  obtain ⟨c, hcode, r0, hev, hend⟩ := h
  have hsz : vals.length = args.length := by have := hI.size; simpa using this
  refine (callsIn_wide (n := 0)).1 (callsIn_of_wp_marks (F := Fr none) hf hcode trivial ?_ rfl)
  have hI0 : Inv Γ Γ.w.heap.size (initA fn args (if cfg.ro fid then gl.length else ro) gl) { tmps := vals.toArray ++ Array.replicate (fn.ntmps - vals.toArray.size) undef, defers := [] } := by
    refine ⟨Marks.nil, by simp [initA, hsz], fun i v x hv hx => ?_, hI.len, hI.bl, hI.ng, hI.boxes, hI.toks, hI.globs, hI.fix, hI.ownlt, hI.base, hI.its⟩
    simp only [initA] at hx
    by_cases hi : i < args.length
    · rw [List.getElem?_append_left (by simpa using hi)] at hx
      rw [Array.getElem?_append_left (by simp [hsz]; exact hi)] at hv
      exact hI.slots i v x hv hx
    · rw [List.getElem?_append_right (by simp; omega)] at hx
      have := List.mem_of_getElem? hx
      rw [List.mem_replicate] at this
      rw [this.2]
      trivial
  refine code_sound hm hc n c (by simp only [fnOk, Bool.and_eq_true] at hok; have := hok.2; rw [hcode] at this; simpa using this) (.inl rfl) hI0 hev fun Γ' a' st hI' => ?_
  obtain ⟨e, s'⟩ := r0
  have kept := evC_ro (P := P) (cfg := cfg) (fid := fid) (fun f args ro gl r h => (hc f args ro gl r h).2) n c (s := initA fn args (if cfg.ro fid then gl.length else ro) gl) (r := (e, s'))
  have fin : ∀ {Γ' : Ctx}, Step ql Γ.w.heap.size Γ Γ' → Inv Γ' Γ.w.heap.size s' { tmps := a'.tmps, defers := [] } → (resA P s' fn.results.toList).bind (fun cs => (expoCs cs).bind fun cs => if cfg.ro fid then (settleCs s'.gl gl.length cs).bind fun cs => (if cs.all (C.below gl.length) then some (packRes cs, gl) else none) else some (packRes cs, s'.gl)) = some r →
      ∃ v, (results fn a'.tmps).run P Γ'.w = .ok v Γ'.w ∧ ∃ (Γ'' : Ctx) (v' : Value), Ending.returned v = .returned v' ∧ Γ''.w = Γ'.w ∧ Step ql Γ.w.heap.size Γ Γ'' ∧ Inv Γ'' Γ.w.heap.size { sl := [r.1], bx := [], tk := [], gl := r.2, ro } { tmps := #[v'], defers := [] } := by
    intro Γ' st hI' h
    simp only [Option.bind_eq_some_iff] at h
    obtain ⟨cs, hcs, cs', hcs', h⟩ := h
    suffices key : ∃ v, (results fn a'.tmps).run P Γ'.w = .ok v Γ'.w ∧ ∃ (Γ'' : Ctx) (v' : Value), Ending.returned v = .returned v' ∧ Γ''.w = Γ'.w ∧ Step ql Γ.w.heap.size Γ Γ'' ∧ Inv Γ'' Γ.w.heap.size { sl := [packRes cs'], bx := [], tk := [], gl := s'.gl, ro } { tmps := #[v'], defers := [] } by
      split at h
      · rename_i hro
        rw [Option.bind_eq_some_iff] at h
        obtain ⟨cs2, hset, h⟩ := h
        split at h
        · rename_i hb
          cases h
          obtain ⟨v, k2, Γ'', v', k3, k4, k5, k6⟩ := key
          have kp := kept (by simp [initA, hro]) hev
          simp only [initA, hro, if_true] at kp
          refine ⟨v, k2, Γ''.drop gl.length, v', k3, k4, ⟨k5.os, k5.tape, k5.output, k5.size, k5.old, fun a ha => ⟨.inl (k5.F a ha).1, (k5.F a ha).2⟩, fun a ha => ?_, Nat.le_of_eq hI.ng, k5.glb, fun g hg hno => ?_, k5.drawn⟩, ?_⟩
          · rcases ha with ha | ⟨o, h1, h2, h3⟩
            · exact k5.Fnew a ha
            · by_cases hlt : a.block < Γ.w.heap.size
              · by_cases hno : ∀ o, Γ.own a.block ≠ some (.glo o)
                · rw [k5.own _ hlt hno] at h3
                  exact absurd h3 (hno o)
                · obtain ⟨o', h4⟩ := Classical.not_forall.1 hno
                  exact .inr (.inr ⟨o', Classical.not_not.1 h4⟩)
              · exact .inr (.inl (by omega))
          · show dropOwn gl.length Γ''.ng (Γ''.own g) = _
            rw [k5.own g hg hno]
            have := hno
            cases hgo : Γ.own g with
            | none => rfl
            | some ow => cases ow with
              | glo o => exact absurd hgo (hno o)
              | _ => rfl
          have hlen2 : ∀ (xs ys : List C), settleCs s'.gl gl.length xs = some ys → xs.length = ys.length := by
            intro xs
            induction xs with
            | nil => intro ys h; simp only [settleCs, Option.some.injEq] at h; subst h; rfl
            | cons x r ih =>
              intro ys h
              simp only [settleCs, Option.bind_eq_some_iff, Option.map_eq_some_iff] at h
              obtain ⟨c, hc, q, hq, rfl⟩ := h
              simp [ih q hq]
          refine k6.drop rfl (by have := kp.1; simpa using this) (fun u hu => pack_settle hu (hlen2 _ _ hset) _ fun vs hvs => settleCs_sound k6 hvs hset hb) (fun ds hds d hd => ?_)
          obtain ⟨o, hlt, rfl⟩ := List.getElem_of_mem hds
          have hce : gl[o] ≠ [] := fun e => by rw [e] at hd; simp at hd
          obtain ⟨us, ty, e1, e3, e4, e5, e6⟩ := hI.globs o _ (List.getElem?_eq_getElem hlt) hce
          obtain ⟨i, hi, rfl⟩ := List.getElem_of_mem hd
          have hi' : i < (us.toList.take gl[o].length).length := by rw [e3.1]; exact hi
          have := (e3.2 i _ _ (List.getElem?_eq_getElem hi') (List.getElem?_eq_getElem hi)).below
          rwa [hI.ng] at this
        · cases h
      · cases h
        exact key
    clear h
    obtain ⟨vs, hvs, hv⟩ := results_sound hI' _ _ hcs
    have hv' := expoCs_sound2 hv hcs'
    refine ⟨if hh : vs.toArray.size = 1 then vs.toArray[0] else .tuple vs.toArray, ?_, Γ'.calm, _, rfl, rfl, ?_, ?_⟩
    · rw [results_eq, Sem.run_bind, Array.mapM_eq_mapM_toList, Sem.run_map, hvs]
      rfl
    · exact ⟨st.os, st.tape, st.output, st.size, st.old, st.F, st.Fnew, st.ng, st.glb, st.own, st.drawn⟩
    · refine ⟨Marks.nil, rfl, fun i v x hvi hx => ?_, fun _ => rfl, fun k => by simp [Ctx.calm, look], hI'.ng, fun k cs hk => by simp [look] at hk, fun k t hk => by simp [look] at hk, fun o cs ho hce => ?_, hI'.fix, hI'.ownlt, hI'.base, fun k p hk => by simp [look] at hk⟩
      · have hi : i = 0 := by
          have := (List.getElem?_eq_some_iff.1 hx).1
          simpa using this
        subst hi
        simp only [List.getElem?_cons_zero, Option.some.injEq] at hx
        subst hx
        have hve : (if hh : vs.toArray.size = 1 then vs.toArray[0] else Value.tuple vs.toArray) = v := by simpa using hvi
        rw [← hve]
        have hl := hv'.1
        split
        · rename_i h1
          have h1' : vs.length = 1 := by simpa using h1
          obtain ⟨u, rfl⟩ := List.length_eq_one_iff.1 h1'
          obtain ⟨c, rfl⟩ := List.length_eq_one_iff.1 (hl.symm.trans h1')
          exact hv'.2 0 u c rfl rfl
        · rename_i h1
          have h1' : vs.length ≠ 1 := by simpa using h1
          have : packRes cs' = .tup cs' := by
            rw [hl] at h1'
            cases cs' with
            | nil => rfl
            | cons c r => cases r with
              | nil => exact absurd rfl h1'
              | cons d r => rfl
          rw [this]
          exact ⟨vs.toArray, rfl, by simpa using hv'⟩
      · obtain ⟨us, ty, e1, e3, e4, e5, e6⟩ := hI'.globs o cs ho hce
        exact ⟨us, ty, e1, ⟨e3.1, fun i u b hu hb => RW.calm (e3.2 i u b hu hb) (e6.1 b (List.mem_of_getElem? hb))⟩, e4, e5, e6⟩
  have out : ((resA P s' fn.results.toList).bind fun cs => (expoCs cs).bind fun cs => if cfg.ro fid then (settleCs s'.gl gl.length cs).bind fun cs => (if cs.all (C.below gl.length) then some (packRes cs, gl) else none) else some (packRes cs, s'.gl)) = some r →
      LeavesInM (Fr none) 0 P fn a'.tmps (fun e w' => ∃ (Γ' : Ctx) (v : Value), e = .returned v ∧ Γ'.w = w' ∧ Step ql Γ.w.heap.size Γ Γ' ∧ Inv Γ' Γ.w.heap.size { sl := [r.1], bx := [], tk := [], gl := r.2, ro } { tmps := #[v], defers := [] }) a'.defers .returning Γ'.w := fun h => by
    obtain ⟨ds, e0, hnd, hds⟩ := hI'.defers
    rw [e0]
    refine leave_marks (s := s') ?_ ds st { hI' with defers := Marks.nil } hnd hds
    intro Γ2 st2 hI2
    rw [LeavesIn]
    exact fin st2 hI2 h
  cases e with
  | normal => exact out hend
  | ret => exact out hend
  | exit id => simp [endA] at hend

theorem evF_sound {cfg : Cfg} {ext : Nat → Option Caller} (hm : Base P cfg) (hx : ∀ f g, ext f = some g → Sound P ql (fun f' => if f' = f then g f' else fun _ _ _ => none)) : ∀ n, Sound P ql (evF P cfg ext n) := by
  intro n
  induction n with
  | zero => intro f args ro gl r h; simp [evF] at h
  | succ n ih =>
    intro f args ro gl r h
    simp only [evF] at h
    split at h
    · rename_i g hg
      have := hx f g hg f args ro gl r (by simpa using h)
      exact this
    · rw [Option.bind_eq_some_iff] at h
      obtain ⟨fn, hfn, h⟩ := h
      split at h
      rotate_left
      · cases h
      · rename_i hok
        have hname : fn.name ≠ "runtime.NumGoroutine" := by simp only [fnOk, Bool.and_eq_true] at hok; simpa using hok.1
        refine ⟨.inl ⟨⟨fn, hfn, by simpa using hname, ?_⟩, fun Γ vals hI => body_sound hm ih n hfn hok h hI⟩, ?_⟩
        · unfold bodyA at h
          cases hb : fn.body with
          | none => rw [hb] at h; simp at h
          | some c => rfl
        · intro hle
          unfold bodyA at h
          simp only [Option.bind_eq_some_iff] at h
          obtain ⟨c, hcode, r0, hev, hend⟩ := h
          have kp := evC_ro (fun f args ro gl r h => (ih f args ro gl r h).2) n c (s := initA fn args (if cfg.ro f then gl.length else ro) gl) (by simp only [initA]; split <;> omega) hev
          unfold endA at hend
          split at hend
          · cases hend
          · simp only [Option.bind_eq_some_iff] at hend
            obtain ⟨cs, hcs, cs', hcs', hend⟩ := hend
            split at hend
            · rw [Option.bind_eq_some_iff] at hend
              obtain ⟨cs2, hset, hend⟩ := hend
              split at hend
              · cases hend
                exact ⟨rfl, hle⟩
              · cases hend
            · rename_i hro
              cases hend
              simp only [initA, hro] at kp
              exact ⟨kp.1, kp.2.2⟩
theorem evF_left {cfg : Cfg} {ext : Nat → Option Caller} (hm : Base P cfg) (hx : ∀ f g, ext f = some g → Sound P ql (fun f' => if f' = f then g f' else fun _ _ _ => none)) {f n : Nat} (hf : ext f = none) {args : List C} {ro : Nat} {gl : List (List W)} {r : V × List (List W)}
    (h : evF P cfg ext n f args ro gl = some r) : ∀ (Γ : Ctx) (vals : List Value), Inv Γ Γ.w.heap.size { sl := args.map .c, bx := [], tk := [], gl, ro } { tmps := vals.toArray, defers := [] } →
    Calls P f vals.toArray Γ.w fun e w' => ∃ (Γ' : Ctx) (v : Value), e = .returned v ∧ Γ'.w = w' ∧ Step ql Γ.w.heap.size Γ Γ' ∧ Inv Γ' Γ.w.heap.size { sl := [r.1], bx := [], tk := [], gl := r.2, ro } { tmps := #[v], defers := [] } := by
  cases n with
  | zero => simp [evF] at h
  | succ n =>
    simp only [evF, hf, Option.bind_eq_some_iff] at h
    obtain ⟨fn, hfn, h⟩ := h
    split at h
    · rename_i hok
      exact fun Γ vals hI => body_sound hm (evF_sound hm hx n) n hfn hok h hI
    · cases h
end
end Go.Proofs.YtckonoejmjblfaaGreat.Ev
