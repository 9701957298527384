/-
  The ideal interpreter against the machine: a callee that the kit's contract of slices.SortFunc proves: its row, sorted by a comparator that the ideal interpreter knows.
-/
import Derived.Test.YtahlhacmikdimaaGreatA30
import Derived.Shelf.SlSortCmp.WholeK
namespace Go.Proofs.YtahlhacmikdimaaGreat
namespace Ai
open Go.Shelf Go.RowKit Go.Lib Go.Sort
set_option linter.unusedSimpArgs false
set_option linter.unusedVariables false

/-! ### Sorted lists -/

theorem sorted_unique {α : Type} {r : α → α → Prop} : ∀ {l1 l2 : List α}, l1.Perm l2 → l1.Pairwise r → l2.Pairwise r → (∀ a ∈ l1, ∀ b ∈ l1, r a b → r b a → a = b) → l1 = l2
  | [], l2, hp, _, _, _ => (List.nil_perm.1 hp).symm
  | a :: l1, [], hp, _, _, _ => by simp at hp
  | a :: l1, b :: l2, hp, h1, h2, ha => by
    have hab : a = b := by
      have hb : b ∈ a :: l1 := hp.mem_iff.2 (List.mem_cons_self ..)
      have ha' : a ∈ b :: l2 := hp.mem_iff.1 (List.mem_cons_self ..)
      rcases List.mem_cons.1 hb with h | h
      · exact h.symm
      · rcases List.mem_cons.1 ha' with h' | h'
        · exact h'
        · exact ha a (List.mem_cons_self ..) b hb ((List.pairwise_cons.1 h1).1 b h) ((List.pairwise_cons.1 h2).1 a h')
    subst hab
    rw [sorted_unique ((List.perm_cons a).1 hp) (List.pairwise_cons.1 h1).2 (List.pairwise_cons.1 h2).2 fun x hx y hy => ha x (List.mem_cons_of_mem _ hx) y (List.mem_cons_of_mem _ hy)]

/-! ### What is asked of the comparator -/

def cmpI (g : FuncId) (c : Cd) : FI := ⟨g, [.d c true, .d c true], [⟨.i .i64, false, 0⟩]⟩

structure SortOk (E0 : Env) (g : FuncId) (c : Cd) (cf : El c → El c → Int) (xs : List (El c)) : Prop where
  run : ∀ a ∈ xs, ∀ b ∈ xs, MFn E0 (cmpI g c) ((a, b) : El c × El c) (cf a b : Int)
  irr : ∀ a ∈ xs, ¬ cf a a < 0
  tr : ∀ a ∈ xs, ∀ b ∈ xs, ∀ d ∈ xs, cf a b < 0 → cf b d < 0 → cf a d < 0
  ntr : ∀ a ∈ xs, ∀ b ∈ xs, ∀ d ∈ xs, ¬ cf a b < 0 → ¬ cf b d < 0 → ¬ cf a d < 0
  anti : ∀ a ∈ xs, ∀ b ∈ xs, ¬ cf a b < 0 → ¬ cf b a < 0 → a = b

def Sorts (E0 : Env) (g : FuncId) (c : Cd) (cf : El c → El c → Int) (xs ys : List (El c)) : Prop :=
  (xs ≠ [] ∧ xs.length < 4611686018427387904) ∧ SortOk E0 g c cf xs ∧ ys.Perm xs ∧ ys.Pairwise fun a b => ¬ cf b a < 0

theorem sorts_unique {E0 : Env} {g : FuncId} {c : Cd} {cf : El c → El c → Int} {xs ys zs : List (El c)} (h1 : Sorts E0 g c cf xs ys) (h2 : Sorts E0 g c cf xs zs) : ys = zs := by
  obtain ⟨_, h, hp, hs⟩ := h1
  obtain ⟨_, _, hp', hs'⟩ := h2
  exact sorted_unique (hp.trans hp'.symm) hs hs' fun a ha b hb r1 r2 => h.anti a (hp.mem_iff.1 ha) b (hp.mem_iff.1 hb) r2 r1

open Classical in
/-- What the row holds behind the call. -/
noncomputable def sortX (E0 : Env) (g : FuncId) (c : Cd) (cf : El c → El c → Int) (xs : List (El c)) : Option (List (El c)) := if h : ∃ ys, Sorts E0 g c cf xs ys then some h.choose else none

theorem sortX_eq {E0 : Env} {g : FuncId} {c : Cd} {cf : El c → El c → Int} {xs ys : List (El c)} (h : Sorts E0 g c cf xs ys) : sortX E0 g c cf xs = some ys := by
  have hx : ∃ ys, Sorts E0 g c cf xs ys := ⟨ys, h⟩
  unfold sortX
  rw [dif_pos hx, sorts_unique hx.choose_spec h]

theorem sortX_spec {E0 : Env} {g : FuncId} {c : Cd} {cf : El c → El c → Int} {xs ys : List (El c)} (h : sortX E0 g c cf xs = some ys) : Sorts E0 g c cf xs ys := by
  unfold sortX at h
  split at h
  · rename_i hx
    cases h
    exact hx.choose_spec
  · cases h

/-- The callee's shape: the row is lent, the comparator is known. -/
def sortI (f g : FuncId) (c : Cd) : FI := ⟨f, [.ref c, .k (.fn g [])], []⟩

/-! ### The worlds of a sort -/

section
variable {α : Type} [Inhabited α] (enc : α → List Value) (k : Nat) (w : World) (blk off m : Nat) (dk : Array α) (os : Array Obj)

theorem sw_size : (sortWorldK enc k w blk off m dk os).heap.size = w.heap.size + os.size := by
  unfold sortWorldK grow putRowK putRow mapBlock Sort.ahead
  simp

theorem sw_old {b : Nat} (hb : b < w.heap.size) (hne : b ≠ blk) : (sortWorldK enc k w blk off m dk os).heap[b]? = w.heap[b]? := by
  unfold sortWorldK grow putRowK putRow mapBlock Sort.ahead
  simp only
  rw [Array.getElem?_append_left (by simpa using hb), Array.getElem?_modify, if_neg (fun h => hne h.symm)]

theorem sw_blk {arr : Array Value} {t : TypeId} (hb : blk < w.heap.size) (h : w.heap[blk]? = some (.cells arr t (0, 0))) : (sortWorldK enc k w blk off m dk os).heap[blk]? = some (.cells (putCells id off (flatK enc k dk) arr) t (0, 0)) := by
  unfold sortWorldK grow putRowK putRow mapBlock Sort.ahead
  simp only
  rw [Array.getElem?_append_left (by simpa using hb), Array.getElem?_modify, if_pos rfl]
  rw [show w.heap[blk]? = _ from h]
  rfl

theorem sw_fr : (sortWorldK enc k w blk off m dk os).os = w.os ∧ (sortWorldK enc k w blk off m dk os).tape = w.tape ∧ (sortWorldK enc k w blk off m dk os).drawn = w.drawn + m ∧ (sortWorldK enc k w blk off m dk os).output = w.output := ⟨rfl, rfl, rfl, rfl⟩
end

/-- A world that has only drawn and grown. -/
theorem grown_of {W w' : World} (h1 : w'.os = W.os) (h2 : w'.tape = W.tape) (h3 : W.drawn ≤ w'.drawn) (h4 : w'.output = W.output) (h5 : W.heap.size ≤ w'.heap.size) (h6 : ∀ k, k < W.heap.size → w'.heap[k]? = W.heap[k]?) :
    ∃ q os', w' = grow (W.drewN q) os' := by
  refine ⟨w'.drawn - W.drawn, w'.heap.extract W.heap.size w'.heap.size, ?_⟩
  obtain ⟨hp, tp, dr, oS, out⟩ := w'
  simp only at h1 h2 h3 h4 h5 h6
  subst h1 h2 h4
  unfold grow World.drewN
  simp only [World.mk.injEq, and_true, true_and]
  refine ⟨?_, by omega⟩
  apply Array.ext_getElem?
  intro i
  by_cases hi : i < W.heap.size
  · rw [h6 i hi, Array.getElem?_append_left (by simpa using hi)]
  · rw [Array.getElem?_append_right (by simpa using Nat.le_of_not_lt hi)]
    by_cases hi2 : i < hp.size
    · rw [Array.getElem?_eq_getElem hi2, Array.getElem?_eq_getElem (by simp; omega)]
      simp
      congr 1
      omega
    · rw [Array.getElem?_eq_none (by omega), Array.getElem?_eq_none (by simp; omega)]

section
variable {E0 : Env} {g : FuncId} {c : Cd} {cf : El c → El c → Int} {xs ys : List (El c)}

/-- The comparator's own contract, in whatever world the sort passes through. -/
theorem cmp_lays (hS : SortOk E0 g c cf xs) [Inhabited (Fin xs.length)] {ok : Nat → Prop} {w : World} {blk off : Nat} (hno : ¬ ok blk) (enc : Fin xs.length → List Value) (hd : ∀ i : Fin xs.length, DR w ok c (xs.get i) (enc i)) (size : Nat) :
    CmpLays E0.P g #[] enc (csize c) (fun i j => cf (xs.get i) (xs.get j)) blk off size w := by
  intro m os dk hs i j
  generalize hW : sortWorldK enc (csize c) w blk off m dk os = W
  have hsz : w.heap.size ≤ W.heap.size := by rw [← hW, sw_size]; omega
  have hdW : ∀ (org : Nat) (i : Fin xs.length), DR W ((cxOf (base0 W) (fun _ => none) bk0 W).ok org) c (xs.get i) (enc i) := fun org i =>
    (hd i).mono hsz fun b hb hok => ⟨ok0 W org b (by omega), by rw [← hW]; exact sw_old enc (csize c) w blk off m dk os hb fun e => hno (e ▸ hok)⟩
  obtain ⟨_, H⟩ := hS.run _ (List.get_mem xs i) _ (List.get_mem xs j)
  refine (H (base0 W) (fun _ => none) _ (by simp [cmpI]) (mem0 W) (fun t => ?_) (fun id h => by simp [cmpI, refIds] at h)).mono fun e w' ⟨v, he, hF⟩ => ?_
  · show TR (cxOf (base0 W) (fun _ => none) bk0 W) _ _
    have key : ∀ (org : Nat) (i : Fin xs.length), TR (cxOf (base0 W) (fun _ => none) bk0 W) (.v (mkVal true (scells org c (xs.get i)))) (.agg (enc i).toArray) := fun org i => by
      have : mkVal true (scells org c (xs.get i)) = .agg (scells org c (xs.get i)) := by unfold mkVal; rfl
      rw [this]
      exact ⟨_, rfl, by simpa using scells_sr (C := cxOf (base0 W) (fun _ => none) bk0 W) (hdW org i)⟩
    match t with
    | 0 => exact key _ i
    | 1 => exact key _ j
    | t + 2 => exact trivial
  · obtain ⟨hfr, _, ⟨us, rfl, hr⟩, _⟩ := hF
    match us, hr with
    | [u], hr =>
      have hu : u = .int .i64 (cf (xs.get i) (xs.get j)) := by
        rcases hr.1.1 with ⟨_, h⟩ | ⟨h, _⟩
        · have h' : [u] = [Value.int .i64 (cf (xs.get i) (xs.get j))] := h
          simpa using h'
        · cases h
      refine ⟨by rw [he, hu]; rfl, ?_⟩
      exact grown_of hfr.os hfr.tape.tape hfr.tape.dr hfr.output hfr.size fun k hk => hfr.old k hk (fun h => h.elim)
    | [], hr => exact hr.elim
    | _ :: _ :: _, hr =>
      have := hr.2
      cases this

end

/-- **slices.SortFunc, as a callee.** -/
theorem sort_mfn {E E0 : Env} {f g : FuncId} {c : Cd} {cf : El c → El c → Int} {xs ys : List (El c)} (hP : E.P = E0.P) {ρ : Ren} (L : SlLaysF0.n6 E0.P ρ) (hf : ρ.f 6 = f) (aE : ∀ w, (isAgg (ρ.t 24)).run E0.P w = .ok true w) (zE : ∀ w, (Go.sizeOf (ρ.t 24)).run E0.P w = .ok (csize c) w)
    (hg : ∃ fn cd, E0.P.funcs[g]? = some fn ∧ fn.body = some cd ∧ (fn.name == "runtime.NumGoroutine") = false) (h : Sorts E0 g c cf xs ys) : MFn E (sortI f g c) xs ys := by
  obtain ⟨⟨hne, hlim⟩, hS, hperm, hsort⟩ := h
  obtain ⟨nm, hnm, hf6⟩ := id L.f6
  rw [hf] at hf6
  refine ⟨⟨_, by rw [hP]; exact hf6, rfl⟩, fun A g0 vs hsz hM hT hpin => ?_⟩
  -- the row
  obtain ⟨l, hl, hbr, hX⟩ := hM.br 5 (.vec 1 c xs) rfl
  have hpin5 : A.pin 5 = some l := (hpin 5 (List.mem_cons_self ..)).trans hl
  rcases hbr with ⟨_, e, _⟩ | ⟨hnil, hSl, hn, hcap, hlsz, arr, ty, harr, hfit, hel⟩
  · exact (hne e).elim
  obtain ⟨hlt, hXl⟩ := hX hnil
  have hXb : A.X l.b := hXl.elim (fun h => absurd hlt (Nat.not_lt.2 h)) id
  have hpos : 0 < xs.length := List.length_pos_iff.2 hne
  haveI : Inhabited (Fin xs.length) := ⟨⟨0, hpos⟩⟩
  have hel' : ∀ i : Fin xs.length, ∃ cs, DR A.w0 ((cxOf A g0 (mkA 0 (sortI f g c).as xs).bk A.w0).ok 1) c (xs.get i) cs ∧ ∀ (j : Nat) v, cs[j]? = some v → arr[l.o + i.1 * l.sz + j]? = some v := fun i =>
    hel i.1 (xs.get i) (by simp)
  obtain ⟨enc, henc⟩ := Classical.axiomOfChoice hel'
  have hno : ¬ (cxOf A g0 (mkA 0 (sortI f g c).as xs).bk A.w0).ok 1 l.b := fun hok => hok.2.1 ⟨5, _, l, rfl, hl, hnil, rfl⟩
  have hk : ∀ i, (enc i).length = csize c := fun i => (henc i).1.length
  have heg : ∀ args w, (callFunc g args).run E0.P w = .ok (.enter g args) w := by
    obtain ⟨fn, cd, hfn, hbody, hname⟩ := hg
    exact enters_of hfn hname hbody
  have hcm := cmp_lays hS (w := A.w0) (blk := l.b) (off := l.o) hno enc (fun i => (henc i).1) xs.length
  have hcell : ∀ i : Fin xs.length, ∀ j, j < csize c → arr[l.o + i.1 * csize c + j]? = some ((enc i)[j]!) := fun i j hj => by
    have h1 : (enc i)[j]? = some ((enc i)[j]!) := by
      rw [List.getElem?_eq_getElem (by rw [hk]; exact hj), getElem!_pos _ _ (by rw [hk]; exact hj)]
    have h2 := (henc i).2 j _ h1
    rw [hlsz] at h2
    exact h2
  have hH : HoldsK enc (csize c) A.w0 l.b l.o (Array.ofFn fun i : Fin xs.length => i) := by
    intro t ht
    rw [size_flatK] at ht
    simp only [Array.size_ofFn] at ht
    have hkp : 0 < csize c := by
      rcases Nat.eq_zero_or_pos (csize c) with e | e
      · rw [e] at ht; omega
      · exact e
    have hq : t / csize c < xs.length := by rw [Nat.div_lt_iff_lt_mul hkp]; exact ht
    refine ⟨?_, ?_⟩
    · rw [cell_of (w := A.w0) harr, get_flatK _ _ _ _ (by simpa using ht)]
      have h3 := hcell ⟨t / csize c, hq⟩ (t % csize c) (Nat.mod_lt _ hkp)
      have h4 : l.o + t / csize c * csize c + t % csize c = l.o + t := by
        have := Nat.div_add_mod t (csize c)
        rw [Nat.mul_comm] at this
        omega
      simp only at h3
      rw [h4] at h3
      rw [h3]
      congr 2
      rw [getElem!_pos _ _ (by simpa using hq)]
      simp
    · simp [World.frozen?, show A.w0.heap[l.b]? = _ from harr]
  have hvs : vs = #[.slice (some ⟨l.b, l.o, none⟩) (Array.ofFn fun i : Fin xs.length => i).size l.cap, .func (.func g) #[] #[]] := by
    have h0 := hT 0
    have h1 := hT 1
    have hs2 : vs.size = 2 := hsz
    obtain ⟨l', q1, q2⟩ := (show SR (cxOf A g0 (mkA 0 (sortI f g c).as xs).bk A.w0) (.own 5) (vs.getD 0 undef) from h0)
    obtain ⟨cs, q3, q4⟩ := (show SR (cxOf A g0 (mkA 0 (sortI f g c).as xs).bk A.w0) (.fn g []) (vs.getD 1 undef) from h1)
    have q1' : g0 5 = some l' := q1
    rw [show g0 5 = some l from hl] at q1'
    cases q1'
    have hcs : cs = #[] := by
      match hc : cs.toList, q4 with
      | [], _ => exact Array.toList_eq_nil_iff.1 hc
    subst hcs
    apply Array.ext
    · simp [hs2]
    · intro i h1 h2
      match i, h1 with
      | 0, h1 =>
        rw [Array.getD_eq_getD_getElem?, Array.getElem?_eq_getElem h1] at q2
        simp only [Option.getD_some] at q2
        rw [q2]
        simp [Loc.sl, hnil, hn]
      | 1, h1 =>
        rw [Array.getD_eq_getD_getElem?, Array.getElem?_eq_getElem h1] at q3
        simp only [Option.getD_some] at q3
        rw [q3]
        rfl
      | i + 2, h1 => omega
  have hO : SWO (ltOf fun i j : Fin xs.length => cf (xs.get i) (xs.get j)) := by
    have hm : ∀ i : Fin xs.length, xs.get i ∈ xs := fun i => List.get_mem xs i
    refine ⟨fun x => ?_, fun x y z h1 h2 => ?_, fun x y z h1 h2 => ?_⟩
    · simpa [ltOf] using hS.irr _ (hm x)
    · simp only [ltOf, decide_eq_true_eq] at h1 h2 ⊢
      exact hS.tr _ (hm x) _ (hm y) _ (hm z) h1 h2
    · simp only [ltOf, decide_eq_false_iff_not] at h1 h2 ⊢
      exact hS.ntr _ (hm x) _ (hm y) _ (hm z) h1 h2
  have hcon := AnyQ.slices_SortFunc L (csize c) aE zE enc hk (fun i => (henc i).1.oneCell) (fun i j => cf (xs.get i) (xs.get j)) hO g #[] l.b l.o l.cap (Array.ofFn fun i : Fin xs.length => i) A.w0 heg (by simpa using hcm) hH hlt (by simpa using hlim)
  rw [hf] at hcon
  rw [show (sortI f g c).f = f from rfl, hP, hvs]
  refine hcon.mono fun e w' ⟨he, d', n, os, hpi, hso, hw⟩ => ⟨.tuple #[], he, ?_⟩
  subst hw
  obtain ⟨hds, _, hdp⟩ := hpi
  simp only [Array.size_ofFn] at hds hso
  -- the data
  have hys : ys = d'.toList.map xs.get := by
    refine sorted_unique (r := fun a b => ¬ cf b a < 0) ?_ hsort ?_ fun a ha b hb r1 r2 => hS.anti a (hperm.mem_iff.1 ha) b (hperm.mem_iff.1 hb) r2 r1
    · refine hperm.trans ?_
      have h1 : d'.toList.Perm (Array.ofFn fun i : Fin xs.length => i).toList := by
        have e1 : (d'.extract 0 (Array.ofFn fun i : Fin xs.length => i).size).toList = d'.toList := by simp [← hds]
        have e2 : ((Array.ofFn fun i : Fin xs.length => i).extract 0 (Array.ofFn fun i : Fin xs.length => i).size).toList = (Array.ofFn fun i : Fin xs.length => i).toList := by rw [Array.extract_size]
        rw [e1, e2] at hdp
        exact hdp
      have h2 := (h1.map xs.get).symm
      refine List.Perm.trans ?_ h2
      have : List.map xs.get (Array.ofFn fun i : Fin xs.length => i).toList = xs := by
        apply List.ext_getElem?
        intro i
        by_cases hi : i < xs.length
        · simp [hi]
        · rw [List.getElem?_eq_none (by simp; omega), List.getElem?_eq_none (by omega)]
      rw [this]
    · rw [List.pairwise_map, List.pairwise_iff_getElem]
      intro i j hi hj hij
      have := hso i j (Nat.zero_le _) hij (by simpa [hds] using hj)
      rw [getElem!_pos _ _ (by simpa using hj), getElem!_pos _ _ (by simpa using hi)] at this
      simpa [ltOf] using this
  have hfr := sw_fr enc (csize c) A.w0 l.b l.o n d' os
  have hold := fun b (hb : b < A.w0.heap.size) (hne : b ≠ l.b) => sw_old enc (csize c) A.w0 l.b l.o n d' os hb hne
  have hblk := sw_blk enc (csize c) A.w0 l.b l.o n d' os hlt harr
  have hsize := sw_size enc (csize c) A.w0 l.b l.o n d' os
  generalize sortWorldK enc (csize c) A.w0 l.b l.o n d' os = W at *
  refine ⟨⟨hfr.1, ⟨hfr.2.1, by omega⟩, hfr.2.2.2, by omega, fun k hk hx => hold k hk fun e => hx (e ▸ hXb)⟩, fun _ => False, ⟨[], rfl, rfl⟩, ⟨l, hpin5, .inr ⟨hnil, hSl, ?_, hcap, hlsz, _, ty, hblk, ?_, fun i y hy => ?_⟩⟩, trivial⟩
  · rw [hn]
    exact hperm.length_eq.symm
  · simpa [putCells] using hfit
  · have hys' : (d'.toList.map xs.get)[i]? = some y := by rw [← hys]; exact hy
    rw [List.getElem?_map] at hys'
    obtain ⟨ix, hix, rfl⟩ := Option.map_eq_some_iff.1 hys'
    have hi : i < d'.size := by
      have := (List.getElem?_eq_some_iff.1 hix).1
      simpa using this
    have hix' : d'[i]! = ix := by
      rw [getElem!_pos d' i hi]
      have := (List.getElem?_eq_some_iff.1 hix).2
      simpa using this
    refine ⟨enc ix, (henc ix).1.mono (by show A.w0.heap.size ≤ W.heap.size; omega) fun b hb hok => ?_, fun j v hv => ?_⟩
    · have hbne : b ≠ l.b := fun e => hno (e ▸ hok)
      refine ⟨⟨hok.1, ?_, fun hN => ?_⟩, hold b hb hbne⟩
      · rintro (⟨id, hid, l1, h1, h2, h3⟩ | hz)
        rotate_left
        · exact hz.elim
        have hid5 : id = 5 := by simpa [sortI, refIds] using hid
        subst hid5
        rw [hpin5] at h1
        cases h1
        exact hbne h3.symm
      · have := hok.2.2 hN
        show Plain W.heap[b]?
        rw [hold b hb hbne]
        exact this
    · have hj : j < csize c := by
        have := (List.getElem?_eq_some_iff.1 hv).1
        rwa [hk] at this
      have hlt2 : i * csize c + j < d'.size * csize c := by
        calc i * csize c + j < i * csize c + csize c := by omega
          _ = (i + 1) * csize c := by rw [Nat.add_mul, Nat.one_mul]
          _ ≤ d'.size * csize c := Nat.mul_le_mul_right _ hi
      have hbound : l.o + i * csize c + j < arr.size := by
        have h1 : d'.size * csize c ≤ l.cap * l.sz := by
          rw [hlsz]; exact Nat.mul_le_mul_right _ (by omega)
        omega
      rw [hlsz]
      unfold putCells
      rw [Array.getElem?_mapIdx, Array.getElem?_eq_getElem hbound]
      simp only [Option.map_some, id]
      rw [if_pos ⟨by omega, by rw [size_flatK]; omega⟩]
      rw [show l.o + i * csize c + j - l.o = i * csize c + j by omega, get_flatK _ _ _ _ hlt2]
      have hkp : 0 < csize c := by omega
      rw [show (i * csize c + j) / csize c = i by rw [Nat.add_comm, Nat.add_mul_div_right _ _ hkp, Nat.div_eq_of_lt hj, Nat.zero_add]]
      rw [show (i * csize c + j) % csize c = j by rw [Nat.add_comm, Nat.add_mul_mod_self_right, Nat.mod_eq_of_lt hj], hix']
      rw [getElem!_pos _ _ (by rw [hk]; exact hj)]
      exact congrArg some (List.getElem?_eq_some_iff.1 hv).2

open Classical in
/-- Sorting with a known comparator, among other callees that are proved by contract. -/
noncomputable def sortF (E0 : Env) (f g : FuncId) (c : Cd) (cf : El c → El c → Int) (k : (i : FI) → Dom (.fn i) → Option (Cod (.fn i))) : (i : FI) → Dom (.fn i) → Option (Cod (.fn i)) := fun i x =>
  if h : i = sortI f g c then (match i, h, x with | _, rfl, x => (sortX E0 g c cf x : Option (List (El c))))
  else k i x

theorem sortF_eq {E0 : Env} {f g : FuncId} {c : Cd} {cf : El c → El c → Int} {k : (i : FI) → Dom (.fn i) → Option (Cod (.fn i))} (x : List (El c)) : sortF E0 f g c cf k (sortI f g c) x = sortX E0 g c cf x := by
  unfold sortF
  rw [dif_pos rfl]

theorem sortF_ok {E E0 : Env} {f g : FuncId} {c : Cd} {cf : El c → El c → Int} {k : (i : FI) → Dom (.fn i) → Option (Cod (.fn i))} (hk : ∀ i x y, k i x = some y → MFn E i x y)
    (hs : ∀ xs ys, Sorts E0 g c cf xs ys → MFn E (sortI f g c) xs ys) (i : FI) (x : Dom (.fn i)) (y : Cod (.fn i)) (h : sortF E0 f g c cf k i x = some y) : MFn E i x y := by
  unfold sortF at h
  split at h
  · rename_i he
    subst he
    exact hs _ _ (sortX_spec h)
  · exact hk i x y h

/-! ### The order by leaves -/

def cmpI64 (a b : Int) : Int := if a < b then -1 else if b < a then 1 else 0

def cmpL {α : Type} (f : α → α → Int) : List α → List α → Int
  | [], [] => 0
  | [], _ :: _ => -1
  | _ :: _, [] => 1
  | a :: r, b :: s => if f a b = 0 then cmpL f r s else f a b

def cmpEl : (c : Cd) → El c → El c → Int
  | .i _, a, b => cmpI64 a b
  | .pair p q, a, b => if cmpEl p a.1 b.1 = 0 then cmpEl q a.2 b.2 else cmpEl p a.1 b.1
  | .list c, a, b => cmpL (cmpEl c) a b
  | .bool, _, _ => 0
  | .str, _, _ => 0
  | .unit, _, _ => 0

def ordC : Cd → Bool
  | .i _ => true
  | .pair p q => ordC p && ordC q
  | .list c => ordC c
  | .unit => true
  | _ => false

/-- A total order, as a comparison. -/
structure TotO {α : Type} (f : α → α → Int) : Prop where
  refl : ∀ a, f a a = 0
  anti : ∀ a b, f a b = 0 → a = b
  swap : ∀ a b, f a b < 0 ↔ 0 < f b a
  trans : ∀ a b d, f a b < 0 → f b d < 0 → f a d < 0

theorem TotO.i64 : TotO cmpI64 where
  refl a := by simp [cmpI64]
  anti a b h := by
    unfold cmpI64 at h
    split at h
    · cases h
    · split at h
      · cases h
      · omega
  swap a b := by unfold cmpI64; by_cases h1 : a < b <;> by_cases h2 : b < a <;> simp [h1, h2] <;> omega
  trans a b d h1 h2 := by
    unfold cmpI64 at *
    by_cases e1 : a < b <;> by_cases e2 : b < d <;> by_cases e3 : b < a <;> by_cases e4 : d < b <;> simp [e1, e2, e3, e4] at h1 h2
    all_goals rw [if_pos (by omega)]; decide

theorem TotO.pair {α β : Type} {f : α → α → Int} {g : β → β → Int} (hf : TotO f) (hg : TotO g) : TotO fun (a b : α × β) => if f a.1 b.1 = 0 then g a.2 b.2 else f a.1 b.1 where
  refl a := by simp [hf.refl, hg.refl]
  anti a b h := by
    by_cases e : f a.1 b.1 = 0
    · simp only [e, if_true] at h
      exact Prod.ext (hf.anti _ _ e) (hg.anti _ _ h)
    · simp only [e, if_false] at h
  swap a b := by
    by_cases e : f a.1 b.1 = 0
    · have := hf.anti _ _ e
      simp only [e, if_true, ← this, hf.refl]
      exact hg.swap _ _
    · have e2 : f b.1 a.1 ≠ 0 := fun h => e (by rw [hf.anti _ _ h]; exact hf.refl _)
      simp only [e, e2, if_false]
      exact hf.swap _ _
  trans a b d h1 h2 := by
    by_cases e1 : f a.1 b.1 = 0
    · have q1 := hf.anti _ _ e1
      simp only [e1, if_true] at h1
      by_cases e2 : f b.1 d.1 = 0
      · simp only [e2, if_true] at h2
        rw [q1]
        simp only [e2, if_true]
        exact hg.trans _ _ _ h1 h2
      · simp only [e2, if_false] at h2
        rw [q1]
        simp only [e2, if_false]
        exact h2
    · simp only [e1, if_false] at h1
      by_cases e2 : f b.1 d.1 = 0
      · have q2 := hf.anti _ _ e2
        rw [← q2]
        simp only [e1, if_false]
        exact h1
      · simp only [e2, if_false] at h2
        have h3 := hf.trans _ _ _ h1 h2
        rw [if_neg (by omega)]
        exact h3

theorem TotO.list {α : Type} {f : α → α → Int} (hf : TotO f) : TotO (cmpL f) where
  refl a := by induction a with
    | nil => rfl
    | cons x r ih => simp [cmpL, hf.refl, ih]
  anti a := by induction a with
    | nil => intro b h; cases b with
      | nil => rfl
      | cons => simp [cmpL] at h
    | cons x r ih => intro b h; cases b with
      | nil => simp [cmpL] at h
      | cons y s =>
        simp only [cmpL] at h
        by_cases e : f x y = 0
        · rw [if_pos e] at h; rw [hf.anti _ _ e, ih s h]
        · rw [if_neg e] at h; exact (e h).elim
  swap a := by induction a with
    | nil => intro b; cases b <;> simp [cmpL]
    | cons x r ih => intro b; cases b with
      | nil => simp [cmpL]
      | cons y s =>
        simp only [cmpL]
        by_cases e : f x y = 0
        · have := hf.anti _ _ e
          subst this
          rw [hf.refl, if_pos rfl, if_pos rfl]
          exact ih s
        · have e2 : f y x ≠ 0 := fun h => e (by rw [hf.anti _ _ h]; exact hf.refl _)
          rw [if_neg e, if_neg e2]
          exact hf.swap _ _
  trans a := by induction a with
    | nil => intro b d h1 h2; cases d with
      | nil => cases b with
        | nil => simp [cmpL] at h1
        | cons => simp [cmpL] at h2
      | cons => simp [cmpL]
    | cons x r ih => intro b d h1 h2; cases b with
      | nil => simp [cmpL] at h1
      | cons y s => cases d with
        | nil => simp [cmpL] at h2
        | cons z t =>
          simp only [cmpL] at h1 h2 ⊢
          by_cases e1 : f x y = 0
          · have q1 := hf.anti _ _ e1
            subst q1
            rw [if_pos (hf.refl _)] at h1
            by_cases e2 : f x z = 0
            · rw [if_pos e2] at h2 ⊢; exact ih s t h1 h2
            · rw [if_neg e2] at h2 ⊢; exact h2
          · rw [if_neg e1] at h1
            by_cases e2 : f y z = 0
            · have q2 := hf.anti _ _ e2
              subst q2
              rw [if_neg e1]; exact h1
            · rw [if_neg e2] at h2
              have h3 := hf.trans _ _ _ h1 h2
              rw [if_neg (by omega)]; exact h3

theorem cmpEl_tot : ∀ (c : Cd), ordC c = true → TotO (cmpEl c)
  | .i _, _ => TotO.i64
  | .pair p q, h => by
    simp only [ordC, Bool.and_eq_true] at h
    exact (cmpEl_tot p h.1).pair (cmpEl_tot q h.2)
  | .list c, h => (cmpEl_tot c h).list
  | .unit, _ => ⟨fun _ => rfl, fun _ _ _ => rfl, fun _ _ => ⟨fun h => absurd h (by simp [cmpEl]), fun h => absurd h (by simp [cmpEl])⟩, fun _ _ _ h => absurd h (by simp [cmpEl])⟩
  | .bool, h => by cases h
  | .str, h => by cases h

theorem TotO.sortOk {E0 : Env} {g : FuncId} {c : Cd} {cf : El c → El c → Int} (h : TotO cf) {xs : List (El c)} (hr : ∀ a ∈ xs, ∀ b ∈ xs, MFn E0 (cmpI g c) ((a, b) : El c × El c) (cf a b : Int)) : SortOk E0 g c cf xs where
  run := hr
  irr a _ := by rw [h.refl]; decide
  tr a _ b _ d _ := h.trans a b d
  ntr a _ b _ d _ h1 h2 h3 := by
    have q : ∀ x y, ¬ cf x y < 0 → cf y x < 0 ∨ x = y := fun x y hn => by
      by_cases e : cf x y = 0
      · exact .inr (h.anti _ _ e)
      · exact .inl ((h.swap y x).2 (by omega))
    rcases q a b h1 with e1 | rfl
    · rcases q b d h2 with e2 | rfl
      · have := (h.swap d a).1 (h.trans d b a e2 e1)
        omega
      · exact h1 h3
    · exact h2 h3
  anti a _ b _ h1 h2 := by
    by_cases e : cf a b = 0
    · exact h.anti _ _ e
    · have := (h.swap b a).2 (by omega)
      exact (h2 this).elim

end Ai
end Go.Proofs.YtahlhacmikdimaaGreat
