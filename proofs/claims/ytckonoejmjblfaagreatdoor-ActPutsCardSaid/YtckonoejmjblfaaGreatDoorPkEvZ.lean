/- Stores and appends. -/
import Derived.Test.YtckonoejmjblfaaGreatDoorPkEvY
set_option linter.unusedVariables false
set_option linter.unusedSimpArgs false
namespace Go.Proofs.YtckonoejmjblfaaGreatDoor.Ev
open Go Go.RowKit

theorem flat_get {α : Type} (sz : Nat) : ∀ (xs : List (List α)), (∀ x ∈ xs, x.length = sz) → ∀ (i j : Nat) (x : List α) (d : α), xs[i]? = some x → x[j]? = some d → xs.flatten[i * sz + j]? = some d
  | [], h, i, j, x, d, hx, hd => by simp at hx
  | y :: r, h, 0, j, x, d, hx, hd => by
    simp only [List.getElem?_cons_zero, Option.some.injEq] at hx
    subst hx
    rw [List.flatten_cons, List.getElem?_append_left (by have := (List.getElem?_eq_some_iff.1 hd).1; omega)]
    simpa using hd
  | y :: r, h, i + 1, j, x, d, hx, hd => by
    have hy : y.length = sz := h y (by simp)
    rw [List.flatten_cons, List.getElem?_append_right (by rw [Nat.add_mul]; omega)]
    have := flat_get sz r (fun x hx => h x (by simp [hx])) i j x d (by simpa using hx) hd
    rw [← this]
    congr 1
    rw [Nat.add_mul]
    omega
theorem flat_len {α : Type} (sz : Nat) : ∀ (xs : List (List α)), (∀ x ∈ xs, x.length = sz) → xs.flatten.length = xs.length * sz
  | [], h => by simp
  | y :: r, h => by
    rw [List.flatten_cons, List.length_append, flat_len sz r (fun x hx => h x (by simp [hx])), h y (by simp), List.length_cons, Nat.add_mul]
    omega

section
variable {ql : Prop} {P : Program} {Γ : Ctx}

/-- A slice's cells in a row. -/
theorem RD.flat {F : Addr → Prop} {w : World} {A : Option Addr} {n c z : Nat} {xs : List (List D)} (h : RD F w (.slice A n c) (.sl xs)) (hz : ∀ x ∈ xs, x.length = z) (hn : 0 < xs.length) :
    ∃ a, A = some a ∧ n = xs.length ∧ ∃ us : List Value, us.length = n * z ∧ (∀ (j : Nat) u, us[j]? = some u → w.cell? (a.add j) = some u ∧ F (a.add j)) ∧ All2 (RD F w) us xs.flatten ∧ ∀ u ∈ us, u.oneCell' = true := by
  cases h with
  | sl _ _ _ sz _ vs hm hc hmx hA hsz hcell hd =>
    cases A with
    | none => have := hA rfl; omega
    | some a =>
      have hzz : sz = z := by
        have h1 := hsz 0 _ (List.getElem?_eq_getElem hn)
        have h2 := hz _ (List.getElem_mem hn)
        omega
      subst hzz
      by_cases h0 : sz = 0
      · refine ⟨a, rfl, hm.symm, [], by simp [h0], by simp, ⟨by rw [flat_len sz xs hz, h0]; simp, by simp⟩, by simp⟩
      have hpos : 0 < sz := Nat.pos_of_ne_zero h0
      have hdm : ∀ q, q < n * sz → q / sz < n ∧ q % sz < sz ∧ q / sz * sz + q % sz = q := fun q hq => ⟨(Nat.div_lt_iff_lt_mul hpos).2 hq, Nat.mod_lt _ hpos, by rw [Nat.mul_comm]; exact Nat.div_add_mod q sz⟩
      have hget : ∀ (q : Nat) u, ((List.range (n * sz)).map fun q => vs (q / sz) (q % sz))[q]? = some u → q < n * sz ∧ u = vs (q / sz) (q % sz) := by
        intro q u hu
        have hq : q < n * sz := by have := (List.getElem?_eq_some_iff.1 hu).1; simpa using this
        rw [List.getElem?_map, List.getElem?_range hq] at hu
        simp only [Option.map_some, Option.some.injEq] at hu
        exact ⟨hq, hu.symm⟩
      have hflat : ∀ (q : Nat) (d : D), q < n * sz → xs.flatten[q]? = some d → RD F w (vs (q / sz) (q % sz)) d := by
        intro q d hq hd'
        obtain ⟨h1, h2, h3⟩ := hdm q hq
        have hx : xs[q / sz]? = some (xs[q / sz]'(by omega)) := List.getElem?_eq_getElem (by omega)
        have hl := hsz _ _ hx
        have hj : (xs[q / sz]'(by omega))[q % sz]? = some ((xs[q / sz]'(by omega))[q % sz]'(by omega)) := List.getElem?_eq_getElem (by omega)
        have := flat_get sz xs hz (q / sz) (q % sz) _ _ hx hj
        rw [h3, hd'] at this
        cases this
        exact hd _ _ _ _ hx hj
      refine ⟨a, rfl, hm.symm, (List.range (n * sz)).map fun q => vs (q / sz) (q % sz), by simp, fun q u hu => ?_, ⟨by simp [flat_len sz xs hz, hm], fun q u d hu hd' => ?_⟩, fun u hu => ?_⟩
      · obtain ⟨hq, rfl⟩ := hget q u hu
        obtain ⟨h1, h2, h3⟩ := hdm q hq
        have := hcell a rfl _ _ h1 h2
        rw [h3] at this
        exact ⟨this.2, this.1⟩
      · obtain ⟨hq, rfl⟩ := hget q u hu
        exact hflat q d hq hd'
      · obtain ⟨q, hq⟩ := List.getElem?_of_mem hu
        obtain ⟨hq', rfl⟩ := hget q u hq
        have hlt : q < xs.flatten.length := by rw [flat_len sz xs hz, hm]; exact hq'
        exact (hflat q _ hq' (List.getElem?_eq_getElem hlt)).oneCell.1

/-- A row's cells as a slice. -/
theorem RD.of_row {F : Addr → Prop} {w : World} {g z cap : Nat} {cur : Array Value} {e : TypeId} {fr : Nat × Nat} {xs : List (List D)} (hg : w.heap[g]? = some (.cells cur e fr)) (hz : ∀ x ∈ xs, x.length = z)
    (hv : All2 (RD F w) (cur.toList.take (xs.length * z)) xs.flatten) (hF : ∀ j, j < xs.length * z → F ⟨g, j, none⟩) (hc : xs.length ≤ cap) (hm : cap ≤ maxLen) :
    RD F w (.slice (some ⟨g, 0, none⟩) xs.length cap) (.sl xs) := by
  have hl := flat_len z xs hz
  have hle : xs.length * z ≤ cur.size := by have := hv.1; simp [hl] at this; omega
  have hge : ∀ i j, i < xs.length → j < z → i * z + j < xs.length * z := fun i j hi hj => by
    calc i * z + j < i * z + z := by omega
      _ = (i + 1) * z := by rw [Nat.add_mul]; omega
      _ ≤ xs.length * z := Nat.mul_le_mul_right _ hi
  refine .sl _ _ _ z _ (fun i j => cur.getD (i * z + j) undef) rfl hc hm (fun h => by cases h) (fun i x hx => hz x (List.mem_of_getElem? hx)) (fun a ha i j hi hj => ?_) (fun i j x d hx hd => ?_)
  · cases ha
    have := hge i j hi hj
    rw [add_plain, Nat.zero_add, cell_of_heap hg]
    exact ⟨hF _ this, by rw [Array.getD_eq_getD_getElem?, Array.getElem?_eq_getElem (by omega)]; rfl⟩
  · have hi : i < xs.length := (List.getElem?_eq_some_iff.1 hx).1
    have hj : j < z := by rw [← hz x (List.mem_of_getElem? hx)]; exact (List.getElem?_eq_some_iff.1 hd).1
    have := hge i j hi hj
    refine hv.2 (i * z + j) _ d ?_ (flat_get z xs hz i j x d hx hd)
    rw [List.getElem?_take_of_lt this, Array.getElem?_toList, Array.getD_eq_getD_getElem?, Array.getElem?_eq_getElem (by omega)]
    rfl

/-- Token d bears a row of the call's own. -/
def Ctx.setTok (Γ : Ctx) (w' : World) (d g n z : Nat) (v : Value) : Ctx :=
  { Γ with w := w', F := fun a => Γ.F a ∨ (a.block = g ∧ a.off < n * z), tok := fun k => if k = d then v else Γ.tok k, len := fun k => if k = d then some n else Γ.len k, own := fun b => if b = g then some (.tok d) else Γ.own b }

theorem Inv.setTok {B : Nat} {s : St} {a : Act} (h : Inv Γ B s a) {w' : World} {d g : Nat} {t : Tok} {cap : Nat} {cur : Array Value} {us : List Value} {xs : List (List D)}
    (hold : ∀ n, Γ.len d = some n → n < t.n) (hw : w'.heap[g]? = some (.cells cur t.e (0, 0))) (hcap : t.n ≤ cap) (hm : cap ≤ maxLen) (hsz : cur.size = cap * t.sz) (hB : B ≤ g) (hn0 : 0 < t.n)
    (hos : w'.os = Γ.w.os) (hta : w'.tape = Γ.w.tape) (hou : w'.output = Γ.w.output) (hsize : Γ.w.heap.size ≤ w'.heap.size) (hglt : g < w'.heap.size)
    (hblk : ∀ b, b < Γ.w.heap.size → b ≠ g → w'.heap[b]? = Γ.w.heap[b]?) (hown : Γ.own g = none ∧ Γ.w.heap.size ≤ g ∨ Γ.own g = some (.tok d))
    (hF : ∀ a, Γ.F a → a.block = g → w'.cell? a = Γ.w.cell? a ∧ a.off < t.n * t.sz) (hz : ∀ x ∈ xs, x.length = t.sz) (hxs : xs.length = t.n)
    (hus : All2 (RD Γ.F Γ.w) (cur.toList.take (t.n * t.sz)) xs.flatten) (hdr : Γ.w.drawn ≤ w'.drawn := by exact Nat.le_refl _) :
    let Γ' := Γ.setTok w' d g t.n t.sz (.slice (some ⟨g, 0, none⟩) t.n cap)
    Step ql B Γ Γ' ∧ Inv Γ' B { s with tk := upd s.tk d t } a ∧ RV Γ' (.slice (some ⟨g, 0, none⟩) t.n cap) (.c (.w (.app d xs))) := by
  intro Γ'
  have hFup : ∀ a, Γ.F a → Γ'.F a ∧ Γ'.w.cell? a = Γ.w.cell? a := by
    intro a ha
    refine ⟨.inl ha, ?_⟩
    by_cases hg : a.block = g
    · exact (hF a ha hg).1
    · exact cell_of_block (hblk _ (h.fix a ha).1 hg)
  have hne : ∀ b ow, Γ.own b = some ow → ow ≠ .tok d → b ≠ g := by
    rintro b ow hb hk rfl
    rcases hown with ⟨hown, _⟩ | hown
    · rw [hown] at hb; cases hb
    · rw [hown] at hb; cases hb; exact hk rfl
  have u : Up Γ Γ' := by
    refine ⟨hFup, Nat.le_refl _, fun _ _ => rfl, fun k hk => ⟨hk, rfl⟩, fun k n hk => ?_⟩
    by_cases hkd : k = d
    · subst hkd
      exact ⟨t.n, by simp [Γ', Ctx.setTok], .inr (hold n hk)⟩
    · exact ⟨n, by simp [Γ', Ctx.setTok, hkd, hk], .inl ⟨rfl, by simp [Γ', Ctx.setTok, hkd]⟩⟩
  refine ⟨⟨hos, hta, hou, hsize, fun b hb _ => ?_, hFup, fun a ha => ?_, Nat.le_refl _, fun _ _ => rfl, fun b hb _ => ?_, fun _ => hdr⟩, ?_, ?_⟩
  · exact hblk b (Nat.lt_of_lt_of_le hb h.base) (by omega)
  · rcases ha with ha | ha
    · exact .inl ha
    · exact .inr (.inl (by omega))
  · simp only [Γ', Ctx.setTok]
    rw [if_neg (by omega)]
  · refine ⟨h.defers.go fun D e _ => by
      have hlt := h.ownlt D (by simp [e])
      have := hne D _ e (by simp)
      exact ⟨hblk D hlt this, by simp only [Γ', Ctx.setTok]; rw [if_neg this]; exact e⟩, h.size, fun i v x hv hx => (h.slots i v x hv hx).up u, fun k => ?_, h.bl, h.ng, fun k cs hk => ?_, fun k t' hk => ?_, fun o cs ho hce => ?_, fun a ha => ?_, fun b hb => ?_, Nat.le_trans h.base hsize, fun k p hk => by
      obtain ⟨e1, e2, e3, e4⟩ := h.its k p hk
      have hlt := h.ownlt _ (by rw [e3]; simp)
      have := hne _ _ e3 (by simp)
      exact ⟨(hblk _ hlt this).trans e1, e2, by simp only [Γ', Ctx.setTok]; rw [if_neg this]; exact e3, e4⟩⟩
    · simp only [Γ', Ctx.setTok, look_upd]
      by_cases hkd : k = d
      · simp [hkd]
      · simp [hkd, Ne.symm hkd, h.len]
    · obtain ⟨vs, ty, e1, e2, e3, e4, e5⟩ := h.boxes k cs hk
      have hlt := h.ownlt _ (by rw [e4]; simp)
      have := hne _ _ e4 (by simp)
      exact ⟨vs, ty, (hblk _ hlt this).trans e1, e2, e3.mono fun _ _ => RW.up u, by simp only [Γ', Ctx.setTok]; rw [if_neg this]; exact e4, e5⟩
    · rw [look_upd] at hk
      by_cases hkd : d = k
      · subst hkd
        simp only [if_true, Option.some.injEq] at hk
        subst hk
        refine ⟨g, cap, cur, by simp [Γ', Ctx.setTok], hw, hcap, hm, hsz, hB, by simp [Γ', Ctx.setTok], hn0, fun a ha hb => ?_⟩
        rcases ha with ha | ha
        · exact (hF a ha hb).2
        · exact ha.2
      · rw [if_neg hkd] at hk
        obtain ⟨b, cap', cur', e1, e2, e3, e4, e5, e6, e7, e8, e9⟩ := h.toks k t' hk
        have hlt := h.ownlt _ (by rw [e7]; simp)
        have hbg := hne _ _ e7 (by simp [Ne.symm hkd])
        refine ⟨b, cap', cur', by simp [Γ', Ctx.setTok, Ne.symm hkd, e1], (hblk _ hlt hbg).trans e2, e3, e4, e5, e6, by simp only [Γ', Ctx.setTok]; rw [if_neg hbg]; exact e7, e8, fun a ha hb => ?_⟩
        rcases ha with ha | ha
        · exact e9 a ha hb
        · exact absurd (hb.symm.trans ha.1) hbg
    · obtain ⟨vs, ty, e1, e3, e4, e5, e6⟩ := h.globs o cs ho hce
      have hlt := h.ownlt _ (by rw [e4]; simp)
      have := hne _ _ e4 (by simp)
      exact ⟨vs, ty, (hblk _ hlt this).trans e1, e3.mono fun _ _ => RW.up u, by simp only [Γ', Ctx.setTok]; rw [if_neg this]; exact e4, e5, e6⟩
    · rcases ha with ha | ha
      · obtain ⟨e1, e2⟩ := h.fix a ha
        refine ⟨Nat.lt_of_lt_of_le e1 hsize, ?_⟩
        simp only [Γ', Ctx.setTok]
        split
        · exact .inr ⟨d, rfl⟩
        · exact e2
      · rw [ha.1]
        exact ⟨hglt, .inr ⟨d, by simp [Γ', Ctx.setTok]⟩⟩
    · simp only [Γ', Ctx.setTok] at hb ⊢
      split at hb
      · omega
      · exact Nat.lt_of_lt_of_le (h.ownlt b hb) hsize
  · refine ⟨?_, t.n, by simp [Γ', Ctx.setTok], by omega, fun _ => by simp [Γ', Ctx.setTok]⟩
    have := RD.of_row (F := Γ'.F) (w := Γ'.w) (xs := xs) (cap := cap) hw hz (by rw [hxs]; exact hus.mono fun _ _ k => k.mono hFup) (fun j hj => .inr ⟨rfl, by rw [← hxs]; exact hj⟩) (by omega) hm
    rw [hxs] at this
    exact this

theorem all_len {z : Nat} {xs : List (List D)} (h : xs.all (fun u => u.length == z) = true) : ∀ x ∈ xs, x.length = z := fun x hx => by simpa using List.all_eq_true.1 h x hx

/-- The world behind an append that lays a new row. -/
theorem append_new {B : Nat} {s : St} {a : Act} (h : Inv Γ B s a) {d z N old : Nat} {e : TypeId} {z0 : Value} (hz0 : z0.cells.size = z) (hold : ∀ n, Γ.len d = some n → n < N) (hN : 0 < N) (hNm : N ≤ maxLen)
    {us : List Value} {xs : List (List D)} (hl : us.length = N * z) (hz : ∀ x ∈ xs, x.length = z) (hxs : xs.length = N) (hus : All2 (RD Γ.F Γ.w) us xs.flatten) :
    ∃ Γ', Γ'.w = Γ.w.drew.alloc (.cells (us.toArray ++ Builtin.zeroCells z0.cells (grownCap Γ.w N old e - N)) e) ∧ Step ql B Γ Γ' ∧ Inv Γ' B { s with tk := upd s.tk d ⟨N, e, z⟩ } a ∧
      RV Γ' (.slice (some ⟨Γ.w.heap.size, 0, none⟩) N (grownCap Γ.w N old e)) (.c (.w (.app d xs))) := by
  have hge := grownCap_ge Γ.w N old e
  have hsz : (us.toArray ++ Builtin.zeroCells z0.cells (grownCap Γ.w N old e - N)).size = grownCap Γ.w N old e * z := by
    rw [Array.size_append, size_zeroCells, hz0, List.size_toArray, hl, ← Nat.add_mul]
    congr 1
    omega
  have htk : (us.toArray ++ Builtin.zeroCells z0.cells (grownCap Γ.w N old e - N)).toList.take (N * z) = us := by
    rw [Array.toList_append, ← hl]
    exact List.take_left
  have key := h.setTok (ql := ql) (w' := Γ.w.drew.alloc (.cells (us.toArray ++ Builtin.zeroCells z0.cells (grownCap Γ.w N old e - N)) e)) (d := d) (g := Γ.w.heap.size) (t := ⟨N, e, z⟩) (cap := grownCap Γ.w N old e) (us := us) (xs := xs)
    hold (alloc_new _ _) hge (grownCap_le_maxLen _ _ _ _ hNm) hsz h.base hN rfl rfl rfl (by show _ ≤ (Γ.w.heap.push _).size; simp) (by show _ < (Γ.w.heap.push _).size; simp)
    (fun b hb _ => Below.heap_alloc _ _ b hb) ?_ (fun a ha hg => by have := (h.fix a ha).1; omega) hz hxs (by rw [htk]; exact hus) (Nat.le_succ _)
  · exact ⟨_, rfl, key⟩
  · refine .inl ⟨?_, Nat.le_refl _⟩
    cases ho : Γ.own Γ.w.heap.size with
    | none => rfl
    | some o => have := h.ownlt _ (by rw [ho]; simp); omega

theorem append_sound {B : Nat} {s s' : St} {a : Act} (hI : Inv Γ B s a) {dst : Option Nat} {t ty : TypeId} {v v' : Value} {x y : V} (hx : RV Γ v x) (hy : RV Γ v' y) (h : appendA P s dst t x y = some s') :
    ∃ Γ' u, (Builtin.append_ #[t, t] ty #[v, v']).run P Γ.w = .ok u Γ'.w ∧ Step ql B Γ Γ' ∧ Inv Γ' B s' (a.put dst u) := by
  unfold appendA at h
  split at h
  · rename_i e d x y hu
    simp only [Option.bind_eq_some_iff] at h
    obtain ⟨z, hz, nb, hnb, zc, hzc, xs, hxs, ys, hys, h⟩ := h
    unfold byOf at hnb
    rw [Option.map_eq_some_iff] at hnb
    obtain ⟨i, hi, rfl⟩ := hnb
    split at h
    · rename_i hcond
      obtain ⟨hzl, hz0, hallx, hally, hbytes, hmax, hy0⟩ := hcond
      have hlx := all_len hallx
      have hly := all_len hally
      obtain ⟨i', z0, hi', hzero, hcz⟩ := zeroC_spec hzc
      obtain rfl : i' = i := by rw [hi] at hi'; exact (Option.some.inj hi').symm
      have hisz : i'.size = z := by
        unfold szOf at hz
        rw [hi] at hz
        simpa using hz
      have hz0s : z0.cells.size = z := by
        obtain ⟨hc, hk⟩ := constC_sound (Γ := Γ) hcz
        have := (hc.cells hk).1.1
        simp at this
        omega
      have hdy := elems_sound hy hys
      have hdx := elems_sound hx hxs
      obtain ⟨A', m, c', rfl⟩ : ∃ A m c, v' = .slice A m c := by cases hdy; exact ⟨_, _, _, rfl⟩
      obtain ⟨A, n, c, rfl⟩ : ∃ A m c, v = .slice A m c := by cases hdx; exact ⟨_, _, _, rfl⟩
      obtain ⟨a', rfl, rfl, news, hnl, hncell, hnr, hn1⟩ := hdy.flat hly hy0
      have hnews : ∀ (j : Nat) u, news[j]? = some u → Γ.w.cell? (a'.add j) = some u := fun j u hj => (hncell j u hj).1
      have hnl' : news.length = ys.length * i'.size := by rw [hisz]; exact hnl
      have hnx : n = xs.length := by cases hdx with | sl _ _ _ _ _ _ hm => exact hm.symm
      subst hnx
      have hlen : (xs ++ ys).length = xs.length + ys.length := by simp
      have hlxy : ∀ u ∈ xs ++ ys, u.length = z := fun u hu => by
        rcases List.mem_append.1 hu with hu | hu
        · exact hlx u hu
        · exact hly u hu
      have h63 : ((xs.length + ys.length : Nat) : Int) ≤ 9223372036854775807 := by simp only [maxLen] at hmax; omega
      -- a new row
      have grow : ∀ (d' : Nat), c < xs.length + ys.length → (∀ n, Γ.len d' = some n → n < xs.length + ys.length) →
          ∃ Γ' u, (Builtin.append_ #[t, t] ty #[.slice A xs.length c, .slice (some a') ys.length c']).run P Γ.w = .ok u Γ'.w ∧ Step ql B Γ Γ' ∧ Inv Γ' B { (s.put (some d) (.c (.w (.app d' (xs ++ ys))))) with tk := upd s.tk d' ⟨xs.length + ys.length, e, z⟩ } (a.put (some d) u) := by
        intro d' hc hold
        have fin : ∀ {Γ' : Ctx} {u : Value}, Inv Γ' B { s with tk := upd s.tk d' ⟨xs.length + ys.length, e, z⟩ } a → RV Γ' u (.c (.w (.app d' (xs ++ ys)))) →
            Inv Γ' B { (s.put (some d) (.c (.w (.app d' (xs ++ ys))))) with tk := upd s.tk d' ⟨xs.length + ys.length, e, z⟩ } (a.put (some d) u) := by
          intro Γ' u h1 h2
          exact h1.put (some d) h2
        cases A with
        | none =>
          have hc0 : c = 0 := by cases hdx with | sl _ _ _ _ _ _ _ _ _ hA => exact hA rfl
          have hx0 : xs = [] := by
            have : xs.length ≤ c := by cases hdx with | sl _ _ _ _ _ _ _ hc => exact hc
            exact List.eq_nil_of_length_eq_zero (by omega)
          subst hx0
          subst hc0
          simp only [List.length_nil, Nat.zero_add, List.nil_append] at *
          have hr := run_append_nil (P := P) Γ.w t ty e i' z0 hu hi' hzero a' ys.length c' news hnl' hnews hy0 h63 (by omega)
          obtain ⟨Γ', hw, h1, h2, h3⟩ := append_new (ql := ql) hI (d := d') (old := 0) (e := e) hz0s hold hy0 hmax hnl hly rfl hnr
          exact ⟨Γ', _, by rw [hr, hw], h1, fin h2 h3⟩
        | some ad =>
          have hol : ∃ us : List Value, us.length = xs.length * z ∧ (∀ (j : Nat) u, us[j]? = some u → Γ.w.cell? (ad.add j) = some u) ∧ All2 (RD Γ.F Γ.w) us xs.flatten := by
            by_cases hx0 : 0 < xs.length
            · obtain ⟨a2, ha2, _, us, h1, h2, h3, _⟩ := hdx.flat hlx hx0
              cases ha2
              exact ⟨us, h1, fun j u hj => (h2 j u hj).1, h3⟩
            · have hx0 : xs = [] := List.eq_nil_of_length_eq_zero (by omega)
              subst hx0
              exact ⟨[], by simp, by simp, All2.nil⟩
          obtain ⟨olds, hol1, hol2, hol3⟩ := hol
          have hr := run_append_grow (P := P) Γ.w t ty e i' z0 hu hi' hzero ad xs.length c olds (by rw [hisz]; exact hol1) hol2 a' ys.length c' news hnl' hnews hc h63 (growslice_fits hc hbytes)
          obtain ⟨Γ', hw, h1, h2, h3⟩ := append_new (ql := ql) hI (d := d') (old := c) (e := e) (us := olds ++ news) (xs := xs ++ ys) hz0s hold (by omega) hmax (by simp [hol1, hnl, Nat.add_mul]) hlxy hlen (by rw [List.flatten_append]; exact hol3.append hnr)
          refine ⟨Γ', _, ?_, h1, fin h2 h3⟩
          rw [hr, hw]
          simp
      split at h
      · rename_i xs'
        cases hxs
        split at h
        · rename_i hlk
          cases h
          obtain ⟨_, A2, n2, he⟩ := hx
          cases he
          exact grow d (by omega) (fun n hn => by rw [hI.len, hlk] at hn; cases hn)
        · cases h
      · rename_i k xs'
        cases hxs
        split at h
        · rename_i tok hlk
          split at h
          · rename_i ht
            obtain ⟨ht1, ht2, ht3⟩ := ht
            cases h
            obtain ⟨_, nn, hlen2, _, htok⟩ := hx
            have hnn : nn = tok.n := by rw [hI.len, hlk] at hlen2; exact (Option.some.inj hlen2).symm
            subst hnn
            have hv := htok ht1.symm
            obtain ⟨g, cap, cur, e1, e2, e3, e4, e5, e6, e7, e8, e9⟩ := hI.toks k tok hlk
            rw [e1] at hv
            simp only [Value.slice.injEq] at hv
            obtain ⟨rfl, hvn, rfl⟩ := hv
            by_cases hroom : xs.length + ys.length ≤ c
            · -- there is room
              have hcs : xs.length * z + news.length ≤ cur.size := by rw [hnl, e5, ht3, ← Nat.add_mul]; exact Nat.mul_le_mul_right _ hroom
              have hr := run_append_room (P := P) Γ.w t ty e i' hu hi' g xs.length c cur (by rw [← ht2]; exact e2) a' ys.length c' news hnl' hnews hn1 hroom (by rw [hisz]; exact hcs)
              rw [hisz] at hr
              have hxn : tok.n = xs.length := ht1
              have hold : All2 (RD Γ.F Γ.w) (cur.toList.take (xs.length * z)) xs.flatten := by
                have hx0 : 0 < xs.length := by omega
                obtain ⟨a2, ha2, _, us, h1, h2, h3, _⟩ := hdx.flat hlx hx0
                cases ha2
                have : us = cur.toList.take (xs.length * z) := by
                  refine List.ext_getElem? fun j => ?_
                  by_cases hj : j < xs.length * z
                  · rw [List.getElem?_take_of_lt hj]
                    have h4 := List.getElem?_eq_getElem (l := us) (i := j) (by omega)
                    have h5 := (h2 j _ h4).1
                    rw [add_plain, Nat.zero_add, cell_of_heap e2] at h5
                    rw [h4, ← h5]
                    simp
                  · rw [List.getElem?_eq_none (by omega), List.getElem?_eq_none (by simp; omega)]
                rw [← this]
                exact h3
              have htake : ((cur.toList.take (xs.length * z) ++ news ++ cur.toList.drop (xs.length * z + news.length)).toArray.toList).take ((xs.length + ys.length) * z) = cur.toList.take (xs.length * z) ++ news := by
                have : (xs.length + ys.length) * z = (cur.toList.take (xs.length * z) ++ news).length := by simp [hnl, Nat.add_mul]; omega
                rw [this]
                exact List.take_left
              have hlt := hI.ownlt g (by rw [e7]; simp)
              have key := hI.setTok (ql := ql) (w' := Γ.w.setRow g (cur.toList.take (xs.length * z) ++ news ++ cur.toList.drop (xs.length * z + news.length)).toArray) (d := k) (g := g) (t := ⟨xs.length + ys.length, e, z⟩) (cap := c) (us := []) (xs := xs ++ ys)
                (fun n hn => by rw [hlen2] at hn; cases hn; simp only; omega) (by have := setRow_heap Γ.w g cur (cur.toList.take (xs.length * z) ++ news ++ cur.toList.drop (xs.length * z + news.length)).toArray _ _ e2; rw [ht2] at this; exact this)
                hroom e4 (by simp only [List.size_toArray, List.length_append, List.length_take, List.length_drop, Array.length_toList]; rw [ht3] at e5; omega) e6 (by simp only; omega) rfl rfl rfl (by simp [World.setRow]) (by simp [World.setRow]; exact hlt)
                (fun b hb hne => setRow_other _ _ _ _ hne) (.inr e7) ?_ hlxy hlen (by rw [htake, List.flatten_append]; exact hold.append hnr)
              · refine ⟨_, .slice (some ⟨g, 0, none⟩) (xs.length + ys.length) c, ?_, key.1, ?_⟩
                · rw [hr]; rfl
                · exact key.2.1.put (some d) key.2.2
              · intro ad had hb
                have hoff := e9 ad had hb
                refine ⟨?_, ?_⟩
                · unfold World.cell?
                  rw [hb, setRow_heap Γ.w g cur _ _ _ e2, e2]
                  simp only
                  split
                  · rfl
                  · rw [hxn, ht3] at hoff
                    have h1 : (cur.toList.take (xs.length * z) ++ news ++ cur.toList.drop (xs.length * z + news.length))[ad.off]? = cur.toList[ad.off]? := by
                      rw [List.append_assoc, List.getElem?_append_left (by simp; omega), List.getElem?_take_of_lt hoff]
                    simpa using h1
                · simp only
                  rw [hxn, ht3] at hoff
                  rw [Nat.add_mul]
                  omega
            · exact grow k (by omega) (fun n hn => by rw [hlen2] at hn; cases hn; omega)
          · cases h
        · cases h
      · cases h
    · cases h
  · cases h
end
end Go.Proofs.YtckonoejmjblfaaGreatDoor.Ev

/- Stores, calls; every operation. -/
set_option linter.unusedVariables false
set_option linter.unusedSimpArgs false
namespace Go.Proofs.YtckonoejmjblfaaGreatDoor.Ev
open Go Go.RowKit

section
variable {ql : Prop} {P : Program} {Γ : Ctx}

/-- A block of the call's own, or a shared one, is written. -/
def Ctx.setRow (Γ : Ctx) (g : Nat) (new : Array Value) : Ctx := { Γ with w := Γ.w.setRow g new }
theorem Inv.up_setRow {B : Nat} {s : St} {a : Act} (h : Inv Γ B s a) {g : Nat} {ow : Owner} (hown : Γ.own g = some ow) (hnt : ∀ k, ow ≠ .tok k) (new : Array Value) : Up Γ (Γ.setRow g new) := by
  refine ⟨fun ad had => ⟨had, cell_of_block (setRow_other _ _ _ _ ?_)⟩, Nat.le_refl _, fun _ _ => rfl, fun k hk => ⟨hk, rfl⟩, fun k n hk => ⟨n, hk, .inl ⟨rfl, rfl⟩⟩⟩
  rintro rfl
  rcases (h.fix ad had).2 with h1 | ⟨k, h1⟩
  · rw [hown] at h1; cases h1
  · rw [hown] at h1; cases h1; exact hnt k rfl
theorem Inv.setBox {B : Nat} {s : St} {a : Act} (h : Inv Γ B s a) {k : Nat} {cs cs' : List W} (hk : look s.bx k = some cs) {old new : Array Value} {ty : TypeId} (ho : Γ.w.heap[Γ.box k]? = some (.cells old ty (0, 0)))
    (hn : All2 (RW Γ) new.toList cs') (h1 : ∀ u ∈ new.toList, u.oneCell' = true) : Step ql B Γ (Γ.setRow (Γ.box k) new) ∧ Inv (Γ.setRow (Γ.box k) new) B { s with bx := upd s.bx k cs' } a := by
  obtain ⟨_, _, _, hB, _, hown, _⟩ := h.boxes k cs hk
  have u := h.up_setRow hown (by simp) new
  have hs : (Γ.w.setRow (Γ.box k) new).heap.size = Γ.w.heap.size := by simp [World.setRow]
  have hne : ∀ b ow, Γ.own b = some ow → ow ≠ .box k → b ≠ Γ.box k := by
    rintro b ow hb hk rfl
    rw [hown] at hb; cases hb; exact hk rfl
  refine ⟨⟨rfl, rfl, rfl, by show _ ≤ (Γ.w.setRow _ _).heap.size; omega, fun g hg _ => setRow_other _ _ _ _ (by omega), u.F, fun _ ha => .inl ha, Nat.le_refl _, fun _ _ => rfl, fun _ _ _ => rfl, fun _ => Nat.le_refl _⟩,
    h.defers.go fun D e _ => ⟨setRow_other _ _ _ _ (hne _ _ e (by simp)), e⟩, h.size, fun i v x hv hx => (h.slots i v x hv hx).up u, h.len, fun j => ?_, h.ng, fun j ds hj => ?_, fun j t hj => ?_, fun o ds hj hce => ?_, fun ad had => ?_, fun g hg => ?_, by show B ≤ (Γ.w.setRow _ _).heap.size; rw [hs]; exact h.base, fun j p hj => by
      obtain ⟨e1, e2, e3, e4⟩ := h.its j p hj
      exact ⟨(setRow_other _ _ _ _ (hne _ _ e3 (fun e => by cases e; rw [e1] at ho; cases ho))).trans e1, e2, e3, e4⟩⟩
  · simp only [look_upd]
    by_cases hkj : k = j
    · subst hkj; simp [Ctx.setRow, h.bl, hk]
    · simp [hkj, Ctx.setRow, h.bl]
  · rw [look_upd] at hj
    by_cases hkj : k = j
    · subst hkj
      simp only [if_true, Option.some.injEq] at hj
      subst hj
      exact ⟨new, ty, setRow_heap _ _ _ _ _ _ ho, hB, hn.mono fun _ _ => RW.up u, hown, h1⟩
    · rw [if_neg hkj] at hj
      obtain ⟨vs, ty', e1, e2, e3, e4, e5⟩ := h.boxes j ds hj
      exact ⟨vs, ty', (setRow_other _ _ _ _ (hne _ _ e4 (by simp [Ne.symm hkj]))).trans e1, e2, e3.mono fun _ _ => RW.up u, e4, e5⟩
  · obtain ⟨b, cap, cur, e1, e2, e3⟩ := h.toks j t hj
    exact ⟨b, cap, cur, e1, (setRow_other _ _ _ _ (hne _ _ e3.2.2.2.2.1 (by simp))).trans e2, e3⟩
  · obtain ⟨vs, ty', e1, e3, e4, e5, e6⟩ := h.globs o ds hj hce
    exact ⟨vs, ty', (setRow_other _ _ _ _ (hne _ _ e4 (by simp))).trans e1, e3.mono fun _ _ => RW.up u, e4, e5, e6⟩
  · obtain ⟨e1, e2⟩ := h.fix ad had
    exact ⟨by show _ < (Γ.w.setRow _ _).heap.size; rw [hs]; exact e1, e2⟩
  · show _ < (Γ.w.setRow _ _).heap.size
    rw [hs]
    exact h.ownlt g hg
/-- An iterator goes on. -/
def Ctx.setIt (Γ : Ctx) (g : Nat) (o : Obj) : Ctx := { Γ with w := { Γ.w with heap := Γ.w.heap.setIfInBounds g o } }
theorem Inv.stepIt {B : Nat} {s : St} {a : Act} (h : Inv Γ B s a) {k : Nat} {p : List UInt8 × Nat} (hk : look s.it k = some p) (q : Nat) :
    Step ql B Γ (Γ.setIt (Γ.box k) (.stringIter ⟨p.1.toArray⟩ q)) ∧ Inv (Γ.setIt (Γ.box k) (.stringIter ⟨p.1.toArray⟩ q)) B { s with it := upd s.it k (p.1, q) } a := by
  obtain ⟨ho, hB, hown, hl⟩ := h.its k p hk
  have hlt := h.ownlt _ (by rw [hown]; simp)
  have hother : ∀ b, b ≠ Γ.box k → (Γ.w.heap.setIfInBounds (Γ.box k) (.stringIter ⟨p.1.toArray⟩ q))[b]? = Γ.w.heap[b]? := fun b hb => Array.getElem?_setIfInBounds_ne (Ne.symm hb)
  have hself : (Γ.w.heap.setIfInBounds (Γ.box k) (.stringIter ⟨p.1.toArray⟩ q))[Γ.box k]? = some (.stringIter ⟨p.1.toArray⟩ q) := Array.getElem?_setIfInBounds_self_of_lt hlt
  have hs : (Γ.w.heap.setIfInBounds (Γ.box k) (.stringIter ⟨p.1.toArray⟩ q)).size = Γ.w.heap.size := by simp
  have u : Up Γ (Γ.setIt (Γ.box k) (.stringIter ⟨p.1.toArray⟩ q)) := by
    refine ⟨fun ad had => ⟨had, cell_of_block (hother _ ?_)⟩, Nat.le_refl _, fun _ _ => rfl, fun k hk => ⟨hk, rfl⟩, fun k n hk => ⟨n, hk, .inl ⟨rfl, rfl⟩⟩⟩
    intro e
    rcases (h.fix ad had).2 with h1 | ⟨j, h1⟩
    · rw [e, hown] at h1; cases h1
    · rw [e, hown] at h1; cases h1
  have hne : ∀ b ow, Γ.own b = some ow → ow ≠ .box k → b ≠ Γ.box k := by
    rintro b ow hb hk rfl
    rw [hown] at hb; cases hb; exact hk rfl
  refine ⟨⟨rfl, rfl, rfl, by show _ ≤ (Γ.w.heap.setIfInBounds _ _).size; omega, fun g hg _ => hother _ (by omega), u.F, fun _ ha => .inl ha, Nat.le_refl _, fun _ _ => rfl, fun _ _ _ => rfl, fun _ => Nat.le_refl _⟩,
    h.defers.go fun D e _ => ⟨hother _ (hne _ _ e (by simp)), e⟩, h.size, fun i v x hv hx => (h.slots i v x hv hx).up u, h.len, fun j => ?_, h.ng, fun j ds hj => ?_, fun j t hj => ?_, fun o ds hj hce => ?_, fun ad had => ?_, fun g hg => ?_, by show B ≤ (Γ.w.heap.setIfInBounds _ _).size; rw [hs]; exact h.base, fun j r hj => ?_⟩
  · simp only [look_upd]
    by_cases hkj : k = j
    · subst hkj; simp [Ctx.setIt, h.bl, hk]
    · simp [hkj, Ctx.setIt, h.bl]
  · obtain ⟨vs, ty', e1, e2, e3, e4, e5⟩ := h.boxes j ds hj
    exact ⟨vs, ty', (hother _ (hne _ _ e4 (fun e => by cases e; rw [e1] at ho; cases ho))).trans e1, e2, e3.mono fun _ _ => RW.up u, e4, e5⟩
  · obtain ⟨b, cap, cur, e1, e2, e3⟩ := h.toks j t hj
    exact ⟨b, cap, cur, e1, (hother _ (hne _ _ e3.2.2.2.2.1 (by simp))).trans e2, e3⟩
  · obtain ⟨vs, ty', e1, e3, e4, e5, e6⟩ := h.globs o ds hj hce
    exact ⟨vs, ty', (hother _ (hne _ _ e4 (by simp))).trans e1, e3.mono fun _ _ => RW.up u, e4, e5, e6⟩
  · obtain ⟨e1, e2⟩ := h.fix ad had
    exact ⟨by show _ < (Γ.w.heap.setIfInBounds _ _).size; rw [hs]; exact e1, e2⟩
  · show _ < (Γ.w.heap.setIfInBounds _ _).size
    rw [hs]
    exact h.ownlt g hg
  · rw [look_upd] at hj
    by_cases hkj : k = j
    · subst hkj
      simp only [if_true, Option.some.injEq] at hj
      subst hj
      exact ⟨hself, hB, hown, hl⟩
    · rw [if_neg hkj] at hj
      obtain ⟨e1, e2, e3, e4⟩ := h.its j r hj
      exact ⟨(hother _ (hne _ _ e3 (by simp [Ne.symm hkj]))).trans e1, e2, e3, e4⟩
theorem Inv.setGlo {B : Nat} {s : St} {a : Act} (h : Inv Γ B s a) {k : Nat} {cs cs' : List W} (hk : s.gl[k]? = some cs) (hce : cs ≠ []) {old new : Array Value} {ty : TypeId} (ho : Γ.w.heap[Γ.glo k]? = some (.cells old ty (0, 0)))
    (hnz : new.size = old.size) (hn : All2 (RW Γ) (new.toList.take cs'.length) cs') (h1 : ∀ u ∈ new.toList, u.oneCell' = true) (hf : ∀ c ∈ cs', W.free c = true) : Step ql B Γ (Γ.setRow (Γ.glo k) new) ∧ Inv (Γ.setRow (Γ.glo k) new) B { s with gl := s.gl.set k cs' } a := by
  obtain ⟨old', _, ho', _, hown, _, _, hgz⟩ := h.globs k cs hk hce
  rw [ho] at ho'
  cases ho'
  have hkl : k < s.gl.length := (List.getElem?_eq_some_iff.1 hk).1
  have u := h.up_setRow hown (by simp) new
  have hs : (Γ.w.setRow (Γ.glo k) new).heap.size = Γ.w.heap.size := by simp [World.setRow]
  have hne : ∀ b ow, Γ.own b = some ow → ow ≠ .glo k → b ≠ Γ.glo k := by
    rintro b ow hb hk rfl
    rw [hown] at hb; cases hb; exact hk rfl
  refine ⟨⟨rfl, rfl, rfl, by show _ ≤ (Γ.w.setRow _ _).heap.size; omega, fun g hg hno => setRow_other _ _ _ _ (fun e => hno k (e ▸ hown)), u.F, fun _ ha => .inl ha, Nat.le_refl _, fun _ _ => rfl, fun _ _ _ => rfl, fun _ => Nat.le_refl _⟩,
    h.defers.go fun D e _ => ⟨setRow_other _ _ _ _ (hne _ _ e (by simp)), e⟩, h.size, fun i v x hv hx => (h.slots i v x hv hx).up u, h.len, h.bl, by simp [Ctx.setRow, h.ng], fun j ds hj => ?_, fun j t hj => ?_, fun o ds hj hce => ?_, fun ad had => ?_, fun g hg => ?_, by show B ≤ (Γ.w.setRow _ _).heap.size; rw [hs]; exact h.base, fun j p hj => by
      obtain ⟨e1, e2, e3, e4⟩ := h.its j p hj
      exact ⟨(setRow_other _ _ _ _ (hne _ _ e3 (by simp))).trans e1, e2, e3, e4⟩⟩
  · obtain ⟨vs, ty', e1, e2, e3, e4, e5⟩ := h.boxes j ds hj
    exact ⟨vs, ty', (setRow_other _ _ _ _ (hne _ _ e4 (by simp))).trans e1, e2, e3.mono fun _ _ => RW.up u, e4, e5⟩
  · obtain ⟨b, cap, cur, e1, e2, e3⟩ := h.toks j t hj
    exact ⟨b, cap, cur, e1, (setRow_other _ _ _ _ (hne _ _ e3.2.2.2.2.1 (by simp))).trans e2, e3⟩
  · by_cases hko : k = o
    · subst hko
      rw [List.getElem?_set_self hkl, Option.some.injEq] at hj
      subst hj
      exact ⟨new, ty, setRow_heap _ _ _ _ _ _ ho, hn.mono fun _ _ => RW.up u, hown, h1, hf, hnz.trans hgz⟩
    · rw [List.getElem?_set_ne hko] at hj
      obtain ⟨vs, ty', e1, e3, e4, e5, e6⟩ := h.globs o ds hj hce
      exact ⟨vs, ty', (setRow_other _ _ _ _ (hne _ _ e4 (by simp [Ne.symm hko]))).trans e1, e3.mono fun _ _ => RW.up u, e4, e5, e6⟩
  · obtain ⟨e1, e2⟩ := h.fix ad had
    exact ⟨by show _ < (Γ.w.setRow _ _).heap.size; rw [hs]; exact e1, e2⟩
  · show _ < (Γ.w.setRow _ _).heap.size
    rw [hs]
    exact h.ownlt g hg

/-- An object's block goes on as another object's. -/
def Ctx.regrow (Γ : Ctx) (o : Nat) (new : Array Value) : Ctx :=
  { Γ with w := Γ.w.setRow (Γ.glo o) new, glb := fun k => if k = Γ.ng then Γ.glb o else Γ.glb k, ng := Γ.ng + 1, own := fun g => if g = Γ.glo o then some (.glo Γ.ng) else Γ.own g }
theorem Inv.regrow {B : Nat} {s : St} {a : Act} (h : Inv Γ B s a) {o : Nat} {cs cs' : List W} (hk : s.gl[o]? = some cs) (hce : cs ≠ []) {old new : Array Value} {ty : TypeId} (ho : Γ.w.heap[Γ.glo o]? = some (.cells old ty (0, 0)))
    (hnz : new.size = old.size) (hn : All2 (RW Γ) (new.toList.take cs'.length) cs') (h1 : ∀ u ∈ new.toList, u.oneCell' = true) (hf : ∀ c ∈ cs', W.free c = true) :
    Step ql B Γ (Γ.regrow o new) ∧ Inv (Γ.regrow o new) B { s with gl := s.gl.set o [] ++ [cs'] } a := by
  obtain ⟨old', _, ho', _, hown, _, _, hgz⟩ := h.globs o cs hk hce
  rw [ho] at ho'
  cases ho'
  have hkl : o < s.gl.length := (List.getElem?_eq_some_iff.1 hk).1
  have hs : (Γ.w.setRow (Γ.glo o) new).heap.size = Γ.w.heap.size := by simp [World.setRow]
  have hne : ∀ b ow, Γ.own b = some ow → ow ≠ .glo o → b ≠ Γ.glo o := by
    rintro b ow hb hk rfl
    rw [hown] at hb; cases hb; exact hk rfl
  have hF : ∀ ad, Γ.F ad → Γ.F ad ∧ (Γ.w.setRow (Γ.glo o) new).cell? ad = Γ.w.cell? ad := by
    refine fun ad had => ⟨had, cell_of_block (setRow_other _ _ _ _ ?_)⟩
    intro e
    rcases (h.fix ad had).2 with h1 | ⟨k, h1⟩
    · rw [e, hown] at h1; cases h1
    · rw [e, hown] at h1; cases h1
  have hg : ∀ j, j < Γ.ng → (Γ.regrow o new).glb j = Γ.glb j := fun j hj => by simp only [Ctx.regrow]; rw [if_neg (by omega)]
  have u : Up Γ (Γ.regrow o new) := ⟨hF, by simp [Ctx.regrow], hg, fun k hk => ⟨hk, rfl⟩, fun k n hk => ⟨n, hk, .inl ⟨rfl, rfl⟩⟩⟩
  have hown' : ∀ b ow, Γ.own b = some ow → ow ≠ .glo o → (Γ.regrow o new).own b = some ow := fun b ow hb hk => by
    simp only [Ctx.regrow]
    rw [if_neg (hne b ow hb hk)]
    exact hb
  refine ⟨⟨rfl, rfl, rfl, by show _ ≤ (Γ.w.setRow _ _).heap.size; omega, fun g hg hno => setRow_other _ _ _ _ (fun e => hno o (e ▸ hown)), hF, fun _ ha => .inl ha, by simp [Ctx.regrow], hg, fun g hg hno => ?_, fun _ => Nat.le_refl _⟩,
    h.defers.go fun D e _ => ⟨setRow_other _ _ _ _ (hne _ _ e (by simp)), hown' _ _ e (by simp)⟩, h.size, fun i v x hv hx => (h.slots i v x hv hx).up u, h.len, h.bl, by simp [Ctx.regrow, h.ng], fun j ds hj => ?_, fun j t hj => ?_, fun j ds hj hce' => ?_, fun ad had => ?_, fun g hg => ?_, by show B ≤ (Γ.w.setRow _ _).heap.size; rw [hs]; exact h.base, fun j p hj => by
      obtain ⟨e1, e2, e3, e4⟩ := h.its j p hj
      exact ⟨(setRow_other _ _ _ _ (hne _ _ e3 (by simp))).trans e1, e2, hown' _ _ e3 (by simp), e4⟩⟩
  · simp only [Ctx.regrow]
    rw [if_neg (fun e : g = Γ.glo o => hno o (e ▸ hown))]
  · obtain ⟨vs, ty', e1, e2, e3, e4, e5⟩ := h.boxes j ds hj
    exact ⟨vs, ty', (setRow_other _ _ _ _ (hne _ _ e4 (by simp))).trans e1, e2, e3.mono fun _ _ => RW.up u, hown' _ _ e4 (by simp), e5⟩
  · obtain ⟨b, cap, cur, e1, e2, e3⟩ := h.toks j t hj
    exact ⟨b, cap, cur, e1, (setRow_other _ _ _ _ (hne _ _ e3.2.2.2.2.1 (by simp))).trans e2, e3.1, e3.2.1, e3.2.2.1, e3.2.2.2.1, hown' _ _ e3.2.2.2.2.1 (by simp), e3.2.2.2.2.2⟩
  · by_cases hjl : j < s.gl.length
    · rw [List.getElem?_append_left (by simpa using hjl)] at hj
      by_cases hoj : o = j
      · subst hoj
        rw [List.getElem?_set_self hkl] at hj
        cases hj
        exact absurd rfl hce'
      · rw [List.getElem?_set_ne hoj] at hj
        obtain ⟨vs, ty', e1, e3, e4, e5, e6, e7⟩ := h.globs j ds hj hce'
        have hgj : (Γ.regrow o new).glo j = Γ.glo j := by rw [Ctx.glo, hg j (by rw [h.ng]; exact hjl)]
        have hgz' : (Γ.regrow o new).gsz j = Γ.gsz j := by rw [Ctx.gsz, hg j (by rw [h.ng]; exact hjl)]
        exact ⟨vs, ty', by rw [hgj]; exact (setRow_other _ _ _ _ (hne _ _ e4 (by simp [Ne.symm hoj]))).trans e1, e3.mono fun _ _ => RW.up u, by rw [hgj]; exact hown' _ _ e4 (by simp [Ne.symm hoj]), e5, e6, by rw [hgz']; exact e7⟩
    · rw [List.getElem?_append_right (by simp; omega)] at hj
      have h0 : j - (s.gl.set o []).length = 0 := by
        have := (List.getElem?_eq_some_iff.1 hj).1
        simp at this ⊢
        omega
      rw [h0] at hj
      simp only [List.getElem?_cons_zero, Option.some.injEq] at hj
      subst hj
      have hje : j = Γ.ng := by rw [h.ng]; simp at h0; omega
      subst hje
      have hgj : (Γ.regrow o new).glb Γ.ng = Γ.glb o := by simp [Ctx.regrow]
      exact ⟨new, ty, by rw [Ctx.glo, hgj]; exact setRow_heap _ _ _ _ _ _ ho, hn.mono fun _ _ => RW.up u, by rw [Ctx.glo, hgj]; simp [Ctx.regrow], h1, hf, by rw [Ctx.gsz, hgj]; exact hnz.trans hgz⟩
  · obtain ⟨e1, e2⟩ := h.fix ad had
    refine ⟨by show _ < (Γ.w.setRow _ _).heap.size; rw [hs]; exact e1, ?_⟩
    rcases e2 with e2 | ⟨k, e2⟩
    · refine .inl ?_
      simp only [Ctx.regrow]
      rw [if_neg]
      · exact e2
      · intro e; rw [e, hown] at e2; cases e2
    · exact .inr ⟨k, hown' _ _ e2 (by simp)⟩
  · show _ < (Γ.w.setRow _ _).heap.size
    rw [hs]
    by_cases hgo : g = Γ.glo o
    · exact h.ownlt g (by rw [hgo, hown]; simp)
    · simp only [Ctx.regrow] at hg
      rw [if_neg hgo] at hg
      exact h.ownlt g hg

theorem take_mid {α : Type} (l u : List α) (o L : Nat) (h : o + u.length ≤ L) (hL : L ≤ l.length) : (l.take o ++ u ++ l.drop (o + u.length)).take L = (l.take L).take o ++ u ++ (l.take L).drop (o + u.length) := by
  rw [List.take_append, List.take_of_length_le (by simp; omega), List.take_take, Nat.min_eq_left (by omega), List.drop_take]
  congr 2
  simp
  omega
theorem paste_take {old us : List Value} {cs cs' new : List W} {off : Nat} (ha : All2 (RW Γ) (old.take cs.length) cs) (hu : All2 (RW Γ) us new) (hp : paste cs off new = some cs') :
    All2 (RW Γ) ((old.take off ++ us ++ old.drop (off + us.length)).take cs'.length) cs' ∧ off + us.length ≤ old.length := by
  obtain ⟨h1, h2, h3⟩ := paste_spec hp
  have hl : us.length = new.length := hu.1
  have hle : cs.length ≤ old.length := by have := ha.1; simp at this; omega
  have e : (old.take off ++ us ++ old.drop (off + us.length)).take cs'.length = (old.take cs.length).take off ++ us ++ (old.take cs.length).drop (off + us.length) := by
    rw [h3, take_mid _ _ _ _ (by omega) hle]
  refine ⟨by rw [e]; exact ha.paste hu hp, by omega⟩
/-- Cells are written to an object. -/
theorem writeGlo {B : Nat} {s : St} {a : Act} (hI : Inv Γ B s a) {o off : Nat} {cs cs' new : List W} {us : List Value} (hcs : s.gl[o]? = some cs) (hu : All2 (RW Γ) us new) (h1 : ∀ u ∈ us, u.oneCell' = true) (hf : ∀ c ∈ new, W.free c = true) (hp : paste cs off new = some cs') :
    ∃ Γ', (storeCells ⟨Γ.glo o, off, none⟩ us).run P Γ.w = .ok () Γ'.w ∧ Step ql B Γ Γ' ∧ Inv Γ' B { s with gl := s.gl.set o cs' } a := by
  obtain ⟨p1, p2, p3⟩ := paste_spec hp
  by_cases hn : new = []
  · subst hn
    have : us = [] := hu.nil_iff
    subst this
    have hcc : cs' = cs := by rw [p2]; simp
    subst hcc
    refine ⟨Γ, rfl, Step.refl _ _, ?_⟩
    rw [show s.gl.set o cs' = s.gl from ?_]
    · exact hI
    · apply List.ext_getElem?
      intro j
      by_cases hoj : o = j
      · subst hoj; rw [List.getElem?_set_self (List.getElem?_eq_some_iff.1 hcs).1, hcs]
      · rw [List.getElem?_set_ne hoj]
  · have hce : cs ≠ [] := by
      rintro rfl
      have : 0 < new.length := List.length_pos_iff.2 hn
      have h0 : ([] : List W).length = 0 := rfl
      omega
    obtain ⟨old, ty, e1, e3, e4, e5, e6, e7⟩ := hI.globs o cs hcs hce
    obtain ⟨q1, q2⟩ := paste_take e3 hu hp
    have hr := run_storeCells_at P (Γ.glo o) off ty us 0 old Γ.w e1 (by simpa using q2) h1
    simp only [Nat.add_zero] at hr
    have ho1 : ∀ u ∈ ((old.toList.take off ++ us ++ old.toList.drop (off + us.length)).toArray).toList, u.oneCell' = true := by
      intro u hu'
      simp only [List.mem_append] at hu'
      rcases hu' with (hu' | hu') | hu'
      · exact e5 u (List.mem_of_mem_take hu')
      · exact h1 u hu'
      · exact e5 u (List.mem_of_mem_drop hu')
    have ho2 : ∀ c ∈ cs', W.free c = true := by
      intro c hc
      rw [p2] at hc
      simp only [List.mem_append] at hc
      rcases hc with (hc | hc) | hc
      · exact e6 c (List.mem_of_mem_take hc)
      · exact hf c hc
      · exact e6 c (List.mem_of_mem_drop hc)
    obtain ⟨k1, k2⟩ := hI.setGlo (ql := ql) hcs hce e1 (new := (old.toList.take off ++ us ++ old.toList.drop (off + us.length)).toArray) (by simp at q2 ⊢; omega) q1 ho1 ho2
    exact ⟨_, hr, k1, k2⟩

theorem store_sound {B : Nat} {s s' : St} {a : Act} (hI : Inv Γ B s a) {p v : Value} {x : W} {c : C} {t : TypeId} {n : Nat} (hp : RW Γ p x) (hc : RC Γ v c) (hk : c.known = true) (hn : szOf P t = some n) (hl : c.cells.length = n) (h : s.storeW x c.cells = some s') :
    ∃ Γ', (Instr.storeAt t p v).run P Γ.w = .ok () Γ'.w ∧ Step ql B Γ Γ' ∧ Inv Γ' B s' a := by
  obtain ⟨hcell, hone⟩ := hc.cells hk
  have hvs : v.cells.size = n := by have := hcell.1; simp at this; omega
  have run : ∀ (g off : Nat) (old : Array Value) (ty : TypeId), Γ.w.heap[g]? = some (.cells old ty (0, 0)) → off + v.cells.size ≤ old.size →
      (Instr.storeAt t (ptr g off) v).run P Γ.w = .ok () (Γ.w.setRow g (old.toList.take off ++ v.cells.toList ++ old.toList.drop (off + v.cells.toList.length)).toArray) := by
    intro g off old ty hg hle
    have := run_storeCells_at P g off ty v.cells.toList 0 old Γ.w hg (by simp; omega) hone
    simp only [Nat.add_zero] at this
    simp only [Instr.storeAt, ptr, Instr.sureAddr, Sem.run_bind, Sem.run_pure, Result.andThen_ok, storeVar, run_szOf hn]
    rw [if_neg (by omega)]
    exact this
  have hone2 : ∀ (old : Array Value) (off : Nat), (∀ u ∈ old.toList, u.oneCell' = true) → ∀ u ∈ (old.toList.take off ++ v.cells.toList ++ old.toList.drop (off + v.cells.toList.length)).toArray.toList, u.oneCell' = true := by
    intro old off ho u hu
    simp only [List.mem_append] at hu
    rcases hu with (hu | hu) | hu
    · exact ho u (List.mem_of_mem_take hu)
    · exact hone u hu
    · exact ho u (List.mem_of_mem_drop hu)
  unfold St.storeW at h
  split at h
  · rename_i k off
    simp only [Option.bind_eq_some_iff, Option.map_eq_some_iff] at h
    obtain ⟨cs, hcs, cs', hp', rfl⟩ := h
    obtain ⟨old, ty, e1, e2, e3, e4, e5⟩ := hI.boxes k cs hcs
    obtain ⟨rfl, _⟩ := hp
    have hle : off + v.cells.size ≤ old.size := by
      obtain ⟨q, _, _⟩ := paste_spec hp'
      have := e3.1
      simp at this
      omega
    exact ⟨_, run _ off old ty e1 hle, hI.setBox hcs e1 (e3.paste hcell hp') (hone2 old off e5)⟩
  · rename_i o off
    split at h
    · cases h
    · simp only [Option.bind_eq_some_iff, Option.map_eq_some_iff] at h
      obtain ⟨cs, hcs, new', hnew, cs', hp', rfl⟩ := h
      obtain ⟨rfl, _⟩ := hp
      obtain ⟨Γ', hr, k1, k2⟩ := writeGlo (ql := ql) (P := P) hI hcs (expos_sound hcell hnew) hone (expos_free hnew) hp'
      refine ⟨Γ', ?_, k1, k2⟩
      simp only [Instr.storeAt, ptr, Instr.sureAddr, Sem.run_bind, Sem.run_pure, Result.andThen_ok, storeVar, run_szOf hn]
      rw [if_neg (by omega)]
      exact hr
  · cases h

/-! calls -/
/-- What lies before a callee. -/
def Ctx.calm (Γ : Ctx) : Ctx := { Γ with bl := fun _ => False, len := fun _ => none }
theorem RW.calm {v : Value} {x : W} (h : RW Γ v x) (hf : x.free = true) : RW Γ.calm v x := by
  cases x <;> simp only [W.free, reduceCtorEq, Bool.false_eq_true] at hf <;> exact h
/-- The caller's view behind a call. -/
def Ctx.back (Γ Γ' : Ctx) : Ctx := { Γ' with box := Γ.box, bl := Γ.bl, tok := Γ.tok, len := Γ.len }
theorem RW.back {Γ' : Ctx} {v : Value} {x : W} (h : RW Γ' v x) (hb : ∀ k, ¬ Γ'.bl k) (hl : ∀ k, Γ'.len k = none) : RW (Γ.back Γ') v x := by
  cases x <;> try exact h
  · obtain ⟨_, n, h2, _⟩ := h
    rw [hl] at h2
    cases h2
  · exact absurd h.2 (hb _)
  · obtain ⟨_, _, _, _, _, h3⟩ := h
    exact absurd h3 (hb _)
theorem RC.back {Γ' : Ctx} {v : Value} {x : C} (h : RC Γ' v x) (hb : ∀ k, ¬ Γ'.bl k) (hl : ∀ k, Γ'.len k = none) : RC (Γ.back Γ') v x := by
  cases x with
  | w x => exact RW.back h hb hl
  | agg xs => obtain ⟨cs, rfl, h1, h2⟩ := h; exact ⟨cs, rfl, h1.mono fun _ _ k => RW.back k hb hl, h2⟩
theorem RV.back {Γ' : Ctx} {v : Value} {x : V} (h : RV Γ' v x) (hb : ∀ k, ¬ Γ'.bl k) (hl : ∀ k, Γ'.len k = none) : RV (Γ.back Γ') v x := by
  cases x with
  | c x => exact RC.back h hb hl
  | tup xs => obtain ⟨cs, rfl, h1⟩ := h; exact ⟨cs, rfl, h1.mono fun _ _ k => RC.back k hb hl⟩

/-- What a function must be for a call to enter it. -/
def Enters (P : Program) (f : Nat) : Prop := ∃ fn, P.funcs[f]? = some fn ∧ (fn.name == "runtime.NumGoroutine") = false ∧ fn.body.isNone = false
/-- A call that is entered. -/
def Entered (P : Program) (ql : Prop) (f : Nat) (args : List C) (ro : Nat) (gl : List (List W)) (r : V × List (List W)) : Prop :=
  Enters P f ∧ ∀ (Γ : Ctx) (vals : List Value), Inv Γ Γ.w.heap.size { sl := args.map .c, bx := [], tk := [], gl, ro } { tmps := vals.toArray, defers := [] } →
    Calls P f vals.toArray Γ.w fun e w' => ∃ (Γ' : Ctx) (v : Value), e = .returned v ∧ Γ'.w = w' ∧ Step ql Γ.w.heap.size Γ Γ' ∧ Inv Γ' Γ.w.heap.size { sl := [r.1], bx := [], tk := [], gl := r.2, ro } { tmps := #[v], defers := [] }
/-- A call of a function without a body. -/
def Native (P : Program) (f : Nat) (args : List C) (ro : Nat) (gl : List (List W)) (r : V × List (List W)) : Prop :=
  ∀ (Γ : Ctx) (vals : List Value), Inv Γ Γ.w.heap.size { sl := args.map .c, bx := [], tk := [], gl, ro } { tmps := vals.toArray, defers := [] } →
    ∃ v, (callFunc f vals.toArray).run P Γ.w = .ok (.value v) Γ.w ∧ Inv Γ Γ.w.heap.size { sl := [r.1], bx := [], tk := [], gl := r.2, ro } { tmps := #[v], defers := [] }
/-- A callee's contract, in the evaluator's words. -/
def Sound (P : Program) (ql : Prop) (call : Caller) : Prop :=
  ∀ f args ro gl r, call f args ro gl = some r → (Entered P ql f args ro gl r ∨ Native P f args ro gl r) ∧ (ro ≤ gl.length → r.2.take ro = gl.take ro ∧ ro ≤ r.2.length)

theorem Inv.back {B : Nat} {s : St} {a : Act} (h : Inv Γ B s a) {Γ' : Ctx} {gl : List (List W)} {x : V} {v : Value} {ro : Nat} (st : Step ql Γ.w.heap.size Γ.calm Γ') (h' : Inv Γ' Γ.w.heap.size { sl := [x], bx := [], tk := [], gl, ro } { tmps := #[v], defers := [] }) :
    Step ql B Γ (Γ.back Γ') ∧ Inv (Γ.back Γ') B { s with gl := gl } a ∧ RV (Γ.back Γ') v x := by
  have hb : ∀ k, ¬ Γ'.bl k := fun k hk => by rw [h'.bl] at hk; simp [look] at hk
  have hl : ∀ k, Γ'.len k = none := fun k => by rw [h'.len]; rfl
  have u : Up Γ (Γ.back Γ') := ⟨st.F, st.ng, st.glb, fun k hk => ⟨hk, rfl⟩, fun k n hk => ⟨n, hk, .inl ⟨rfl, rfl⟩⟩⟩
  have hst : Step ql B Γ (Γ.back Γ') := ⟨st.os, st.tape, st.output, st.size, fun g hg ho => st.old g (Nat.lt_of_lt_of_le hg h.base) ho, st.F, fun a ha => by
    rcases st.Fnew a ha with ha | ha | ha
    · exact .inl ha
    · exact .inr (.inl (Nat.le_trans h.base ha))
    · exact .inr (.inr ha), st.ng, st.glb, fun g hg ho => st.own g (Nat.lt_of_lt_of_le hg h.base) ho, st.drawn⟩
  have hblk : ∀ b ow, Γ.own b = some ow → (∀ o, ow ≠ .glo o) → Γ'.w.heap[b]? = Γ.w.heap[b]? ∧ Γ'.own b = some ow := fun b ow hb ho => by
    have hlt := h.ownlt b (by rw [hb]; simp)
    have hno : ∀ o, Γ.calm.own b ≠ some (.glo o) := fun o e => by
      have e' : Γ.own b = some (.glo o) := e
      rw [hb] at e'; cases e'; exact ho o rfl
    exact ⟨st.old b hlt hno, (st.own b hlt hno).trans hb⟩
  refine ⟨hst, ⟨h.defers.go fun D e _ => hblk _ _ e (by simp), h.size, fun i v x hv hx => (h.slots i v x hv hx).up u, h.len, h.bl, h'.ng, fun k cs hk => ?_, fun k t hk => ?_, fun o cs ho hce => ?_, h'.fix, h'.ownlt, Nat.le_trans h.base st.size, fun k p hk => by
    obtain ⟨e1, e2, e3, e4⟩ := h.its k p hk
    obtain ⟨q1, q2⟩ := hblk _ _ e3 (by simp)
    exact ⟨q1.trans e1, e2, q2, e4⟩⟩, RV.back (h'.slots 0 v x rfl rfl) hb hl⟩
  · obtain ⟨vs, ty, e1, e2, e3, e4, e5⟩ := h.boxes k cs hk
    obtain ⟨q1, q2⟩ := hblk _ _ e4 (by simp)
    exact ⟨vs, ty, q1.trans e1, e2, e3.mono fun _ _ => RW.up u, q2, e5⟩
  · obtain ⟨b, cap, cur, e1, e2, e3, e4, e5, e6, e7, e8, e9⟩ := h.toks k t hk
    obtain ⟨q1, q2⟩ := hblk _ _ e7 (by simp)
    have hlt := h.ownlt b (by rw [e7]; simp)
    refine ⟨b, cap, cur, e1, q1.trans e2, e3, e4, e5, e6, q2, e8, fun a ha hb' => ?_⟩
    rcases st.Fnew a ha with ha | ha | ⟨o, ha⟩
    · exact e9 a ha hb'
    · omega
    · have ha' : Γ.own a.block = some (.glo o) := ha
      rw [hb', e7] at ha'
      cases ha'
  · obtain ⟨vs, ty, e1, e3, e4⟩ := h'.globs o cs ho hce
    exact ⟨vs, ty, e1, e3.mono fun _ _ k => RW.back k hb hl, e4⟩

theorem comps_sound : ∀ {vs : List Value} {xs : List V} {cs : List C}, All2 (RV Γ) vs xs → comps xs = some cs → All2 (fun v c => RC Γ v c ∧ c.known = true) vs cs
  | vs, [], cs, h, hx => by simp only [comps, Option.some.injEq] at hx; subst hx; rw [h.nil_iff]; exact All2.nil
  | vs, x :: r, cs, h, hx => by
    simp only [comps, Option.bind_eq_some_iff, Option.map_eq_some_iff] at hx
    obtain ⟨c, hc, b, hb, rfl⟩ := hx
    obtain ⟨v, vs', rfl, h1, h2⟩ := h.uncons
    exact All2.cons (comp_sound h1 hc) (comps_sound h2 hb)
def C.free : C → Bool
  | .w x => x.free
  | .agg xs => xs.all W.free
theorem RC.calm {v : Value} {x : C} (h : RC Γ v x) (hf : x.free = true) : RC Γ.calm v x := by
  cases x with
  | w x => exact RW.calm h hf
  | agg xs =>
    obtain ⟨cs, rfl, h1, h2⟩ := h
    exact ⟨cs, rfl, ⟨h1.1, fun i a b ha hb => RW.calm (h1.2 i a b ha hb) (List.all_eq_true.1 hf b (List.mem_of_getElem? hb))⟩, h2⟩
theorem cexpo_sound {v : Value} {x y : C} (h : RC Γ v x) (hx : C.expo x = some y) : RC Γ v y ∧ y.free = true := by
  cases x with
  | w x =>
    simp only [C.expo, Option.map_eq_some_iff] at hx
    obtain ⟨z, hz, rfl⟩ := hx
    exact ⟨expo_sound h hz, expo_free hz⟩
  | agg xs =>
    simp only [C.expo, Option.map_eq_some_iff] at hx
    obtain ⟨z, hz, rfl⟩ := hx
    obtain ⟨cs, rfl, h1, h2⟩ := h
    exact ⟨⟨cs, rfl, expos_sound h1 hz, h2⟩, List.all_eq_true.2 (expos_free hz)⟩
theorem expoCs_sound : ∀ {vs : List Value} {xs ys : List C}, All2 (fun v c => RC Γ v c ∧ c.known = true) vs xs → expoCs xs = some ys → All2 (fun v c => RC Γ.calm v c) vs ys
  | vs, [], ys, h, hx => by simp only [expoCs, Option.some.injEq] at hx; subst hx; rw [h.nil_iff]; exact All2.nil
  | vs, x :: r, ys, h, hx => by
    simp only [expoCs, Option.bind_eq_some_iff, Option.map_eq_some_iff] at hx
    obtain ⟨c, hc, b, hb, rfl⟩ := hx
    obtain ⟨v, vs', rfl, h1, h2⟩ := h.uncons
    obtain ⟨k1, k2⟩ := cexpo_sound h1.1 hc
    exact All2.cons (RC.calm k1 k2) (expoCs_sound h2 hb)

theorem expoFs_sound : ∀ {vs : List Value} {xs ys : List C}, All2 (fun v c => RC Γ v c ∧ c.known = true) vs xs → expoFs xs = some ys → All2 (fun v c => RC Γ.calm v c) vs ys
  | vs, [], ys, h, hx => by simp only [expoFs, Option.some.injEq] at hx; subst hx; rw [h.nil_iff]; exact All2.nil
  | vs, x :: r, ys, h, hx => by
    simp only [expoFs, Option.bind_eq_some_iff, Option.map_eq_some_iff] at hx
    obtain ⟨c, hc, b, hb, rfl⟩ := hx
    obtain ⟨v, vs', rfl, h1, h2⟩ := h.uncons
    unfold C.expoF at hc
    split at hc
    · cases hc
      exact All2.cons (RC.calm h1.1 rfl) (expoFs_sound h2 hb)
    · obtain ⟨k1, k2⟩ := cexpo_sound h1.1 hc
      exact All2.cons (RC.calm k1 k2) (expoFs_sound h2 hb)
theorem Inv.forCall {B : Nat} {s : St} {a : Act} (h : Inv Γ B s a) {vals : List Value} {args : List C} (ha : All2 (fun v c => RC Γ.calm v c) vals args) (ro : Nat) :
    Inv Γ.calm Γ.w.heap.size { sl := args.map .c, bx := [], tk := [], gl := s.gl, ro } { tmps := vals.toArray, defers := [] } := by
  refine ⟨Marks.nil, by simp [ha.1], fun i v x hv hx => ?_, fun k => rfl, fun k => by simp [Ctx.calm, look], h.ng, fun k cs hk => by simp [look] at hk, fun k t hk => by simp [look] at hk, fun o cs ho hce => ?_, h.fix, h.ownlt, Nat.le_refl _, fun k p hk => by simp [look] at hk⟩
  · rw [List.getElem?_map, Option.map_eq_some_iff] at hx
    obtain ⟨c, hc, rfl⟩ := hx
    exact ha.2 i v c (by simpa using hv) hc
  · obtain ⟨vs, ty, e1, e3, e4, e5, e6⟩ := h.globs o cs ho hce
    exact ⟨vs, ty, e1, ⟨e3.1, fun i u b hu hb => RW.calm (e3.2 i u b hu hb) (e6.1 b (List.mem_of_getElem? hb))⟩, e4, e5, e6⟩
end
end Go.Proofs.YtckonoejmjblfaaGreatDoor.Ev
