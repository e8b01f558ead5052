/- A text of the claim: an evaluator of Go functions, and why it answers as they do. -/
import Derived.Test.YtkkjheildoclgaaEvR
import Derived.MapKept
set_option linter.all false
set_option linter.unusedVariables false
set_option linter.unusedSimpArgs false
set_option autoImplicit false
set_option linter.unusedVariables false
namespace Go.Ev
variable {P : Program} {T : Tab} {C : Ctx} {s : St} {a : Act} {w : World} {R : Nat → Prop} {E : Env}

/-! maps from texts to whole numbers -/
theorem TabOK.maps' (hT : TabOK P T) {S : TypeId} {u : Unit} (h : lookO S T.maps = some u) : ∃ k e i, P.underlying S = some (.map k e) ∧ P.underlying k = some .string ∧ P.info? e = some i ∧ i.zero = some (.int .i64 0) := by
  have h1 := lookO_map _ _ S u T.maps hT.maps h
  simp only at h1
  unfold isMapSI at h1
  split at h1
  · rename_i k e hu
    split at h1
    · rename_i i hk hi
      split at h1
      · rename_i n hz
        have hn : n = 0 := by simpa using h1
        subst hn
        exact ⟨k, e, i, hu, hk, hi, hz⟩
      · cases h1
    · cases h1
  · cases h1
theorem beqB (a b : ByteArray) : (a == b) = true ↔ a = b := by
  show ByteArray.beq a b = true ↔ a = b
  unfold ByteArray.beq
  simp [ByteArray.ext_iff]
theorem beqR (a : ByteArray) : (a == a) = true := (beqB a a).2 rfl
theorem bcomm (a b : ByteArray) : (a == b) = (b == a) := by
  cases h : a == b with
  | true => rw [(beqB _ _).1 h, beqR]
  | false =>
    cases h2 : b == a with
    | true => rw [(beqB _ _).1 h2, beqR] at h; cases h
    | false => rfl
theorem findNow_ok (k : ByteArray) : ∀ (es : List (ByteArray × Int)) (j i : Nat), Instr.findNow .string (.string k) (mpEnt j es) i = some (if mhas k es then some (i + midx k es, .int .i64 (mget k es)) else none)
  | [], j, i => rfl
  | e :: r, j, i => by
    have ih := findNow_ok k r (j + 1) (i + 1)
    simp only [mpEnt, Instr.findNow, Instr.sameNow, mhas, midx, mget, ih]
    by_cases hk : (k == e.1) = true
    · simp [hk]
    · rw [Bool.not_eq_true] at hk
      simp only [hk, Bool.false_or, cond_false]
      split <;> simp [Nat.add_assoc, Nat.add_comm 1]
theorem mhas_lt (k : ByteArray) : ∀ (es : List (ByteArray × Int)), mhas k es = true → midx k es < es.length
  | [], h => by simp [mhas] at h
  | e :: r, h => by
    simp only [midx]
    cases hk : k == e.1 with
    | true => simp
    | false => simp only [mhas, hk, Bool.false_or] at h; have := mhas_lt k r h; simp; omega
theorem mhas_not (k : ByteArray) (v : Int) : ∀ (es : List (ByteArray × Int)), mhas k es = false → mput k v es = es ++ [(k, v)] ∧ midx k es = es.length ∧ mget k es = 0
  | [], h => ⟨rfl, rfl, rfl⟩
  | e :: r, h => by
    simp only [mhas, Bool.or_eq_false_iff] at h
    obtain ⟨h1, h2, h3⟩ := mhas_not k v r h.2
    simp [mput, midx, mget, h.1, h1, h2, h3]
theorem mpEnt_app : ∀ (es fs : List (ByteArray × Int)) (j : Nat), mpEnt j (es ++ fs) = mpEnt j es ++ mpEnt (j + es.length) fs
  | [], fs, j => by simp [mpEnt]
  | e :: r, fs, j => by simp only [List.cons_append, mpEnt, mpEnt_app r fs (j + 1), List.length_cons]; congr 3; omega
theorem mpEnt_len : ∀ (es : List (ByteArray × Int)) (j : Nat), (mpEnt j es).length = es.length
  | [], j => rfl
  | e :: r, j => by simp [mpEnt, mpEnt_len r]
theorem mput_len (k : ByteArray) (v : Int) : ∀ (es : List (ByteArray × Int)), mhas k es = true → (mput k v es).length = es.length
  | [], h => by simp [mhas] at h
  | e :: r, h => by
    simp only [mput]
    cases hk : k == e.1 with
    | true => simp
    | false => simp only [mhas, hk, Bool.false_or] at h; simp [mput_len k v r h]
theorem mpEnt_mod (k : ByteArray) (v : Int) : ∀ (es : List (ByteArray × Int)) (j : Nat), mhas k es = true → (mpEnt j es).modify (midx k es) (fun e => { e with key := .string k, val := .int .i64 v }) = mpEnt j (mput k v es)
  | [], j, h => by simp [mhas] at h
  | e :: r, j, h => by
    simp only [mpEnt, midx, mput]
    cases hk : k == e.1 with
    | true => simp [mpEnt]
    | false =>
      simp only [mhas, hk, Bool.false_or] at h
      simp only [cond_false, List.modify_succ_cons, mpEnt, mpEnt_mod k v r (j + 1) h]
theorem mpEnt_modk (k : ByteArray) : ∀ (es : List (ByteArray × Int)) (j : Nat), mhas k es = true → (mpEnt j es).modify (midx k es) (fun e => { e with key := .string k }) = mpEnt j (mput k (mget k es) es)
  | [], j, h => by simp [mhas] at h
  | e :: r, j, h => by
    simp only [mpEnt, midx, mput, mget]
    cases hk : k == e.1 with
    | true => simp [mpEnt]
    | false =>
      simp only [mhas, hk, Bool.false_or] at h
      simp only [cond_false, List.modify_succ_cons, mpEnt, mpEnt_modk k r (j + 1) h]
theorem mpEnt_at (k : ByteArray) : ∀ (es : List (ByteArray × Int)) (j : Nat), mhas k es = true → ∃ v : Int, (mpEnt j es)[midx k es]? = some ⟨.string k, .int .i64 v, j + midx k es⟩
  | [], j, h => by simp [mhas] at h
  | e :: r, j, h => by
    simp only [mpEnt, midx]
    cases hk : k == e.1 with
    | true => rw [(beqB _ _).1 hk]; exact ⟨_, rfl⟩
    | false =>
      simp only [mhas, hk, Bool.false_or] at h
      obtain ⟨v, hv⟩ := mpEnt_at k r (j + 1) h
      refine ⟨v, ?_⟩
      simp only [cond_false, List.getElem?_cons_succ, hv, Option.some.injEq, MapEntry.mk.injEq, true_and]
      omega
theorem mpEnt_set (v : Int) : ∀ (es : List (ByteArray × Int)) (j i : Nat), (mpEnt j es).modify i (fun e => { e with val := .int .i64 v }) = mpEnt j (es.modify i fun e => (e.1, v))
  | [], j, i => by simp [mpEnt]
  | e :: r, j, 0 => by simp [mpEnt]
  | e :: r, j, i + 1 => by simp only [mpEnt, List.modify_succ_cons, mpEnt_set v r (j + 1) i]
theorem mpEnt_find : ∀ (es : List (ByteArray × Int)) (j i : Nat), i < es.length → (mpEnt j es).findIdx? (fun e => (e.born : Int) == ((j + i : Nat) : Int)) = some i
  | [], j, i, h => by simp at h
  | e :: r, j, 0, h => by simp [mpEnt, List.findIdx?_cons]
  | e :: r, j, i + 1, h => by
    have := mpEnt_find r (j + 1) i (by simpa using h)
    simp only [mpEnt, List.findIdx?_cons]
    have h1 : (((j : Nat) : Int) == ((j + (i + 1) : Nat) : Int)) = false := by simp; omega
    rw [h1]
    have h2 : (j + (i + 1) : Nat) = j + 1 + i := by omega
    simp only [Bool.false_eq_true, if_false, h2, this, Option.map_some]

theorem Sim.mp (h : Sim C s a w R E) {n : Nat} {es : List (ByteArray × Int)} (hb : s.st n = some (.mp es)) : E.F n = [E.B n] ∧ ∃ arr, w.heap[E.B n]? = some (.map arr es.length) ∧ arr.toList = mpEnt 0 es := by
  have := h.st n
  unfold SR at this
  rw [hb] at this
  exact this
/-- a map's entries change -/
theorem Sim.setMp (h : Sim C s a w R E) {n : Nat} (hu : s.us n = true) {es es' : List (ByteArray × Int)} (hb : s.st n = some (.mp es)) {arr : Array MapEntry} (ha : arr.toList = mpEnt 0 es') (d : Option Nat) {v : AV} {u : Value} (hv : RV { w with heap := w.heap.setIfInBounds (E.B n) (.map arr es'.length) } R (upd s.st n (some (.mp es'))) s.us { E with F := upd E.F n [E.B n] } v u) :
    Sim C ((s.write [⟨n, some (.mp es'), false⟩]).put d v) (a.put d u) { w with heap := w.heap.setIfInBounds (E.B n) (.map arr es'.length) } R { E with F := upd E.F n [E.B n] } := by
  obtain ⟨hF, arr0, hg, hrc⟩ := h.mp hb
  have hlt := (h.own n (E.B n) (by rw [hF]; simp)).2.1
  have hs := h.set n hu (.mp es) (.mp es') hb (w' := { w with heap := w.heap.setIfInBounds (E.B n) (.map arr es'.length) }) [E.B n] (fun q' e => by cases e)
    (fun k hk hn => by
      rw [hF] at hn
      show (w.heap.setIfInBounds (E.B n) _)[k]? = _
      rw [Array.getElem?_setIfInBounds_ne (by simpa using Ne.symm (by simpa using hn))]) (by simp) rfl rfl rfl (fun k hk => by
      simp only [List.mem_singleton] at hk
      subst hk
      have := h.own n (E.B n) (by rw [hF]; simp)
      exact ⟨this.1, by simpa using this.2.1, this.2.2⟩) (by simp) (fun k c hk hc hc' => by
      simp only [List.mem_singleton] at hc
      subst hc
      exact h.dj k n _ hk hc' (by rw [hF]; simp)) (fun m E' mv hE hm => by
      subst hE; subst hm
      unfold SR
      rw [upd_at]
      refine ⟨by simp [upd_at], arr, ?_, ha⟩
      show (w.heap.setIfInBounds (E.B n) _)[E.B n]? = _
      rw [Array.getElem?_setIfInBounds_self_of_lt hlt])
  rw [write_old]
  exact hs.put d hv

theorem run_checkKey (b : Bool) {k : TypeId} (hk : P.underlying k = some .string) (v : ByteArray) : (Instr.checkKey b 10000 k (.string v)).run P w = .ok () w := by
  rw [show (10000 : Nat) = 9999 + 1 from rfl]
  unfold Instr.checkKey
  simp [run_underlying hk]
theorem run_findKey {kt : TypeId} (hk : P.underlying kt = some .string) (k : ByteArray) {es : List (ByteArray × Int)} {l : List MapEntry} (hl : l = mpEnt 0 es) : (Instr.findKey kt (.string k) l).run P w = .ok (if mhas k es then some (midx k es, .int .i64 (mget k es)) else none) w := by
  subst hl
  unfold Instr.findKey
  simp [run_underlying hk, findNow_ok k es 0 0]
theorem run_stays (k : ByteArray) : (Instr.keyThatStays (.string k) (.string k)).run P w = .ok (.string k) w := by
  unfold Instr.keyThatStays
  simp [Instr.sameBits, beqR]

theorem rv_mref {m : Mem} {us : Nat → Bool} {n : Nat} {v : Value} (h : RV w R m us E (.mref n) v) : us n = true ∧ v = .map (some (E.B n)) := h

theorem g_makeMap (h : Sim C s a w R E) {o : Oper} {S : TypeId} (ho : o.op = .makeMap S none) {dn : Nat} (hn : s.us dn = false) : Goal C P o s a w (.mref dn) [⟨dn, some (.mp []), true⟩] := by
  have h1 := h.alloc (.map #[] 0)
  have h2 := h1.add dn hn (.mp []) undef [w.heap.size] w.heap.size 0 0 (fun b hb => by
      simp only [List.mem_singleton] at hb
      subst hb
      exact ⟨fun hc => absurd (h.lt _ hc) (by omega), by rw [size_alloc']; omega, .inl h.keep.size⟩) (by simp) (fun k b hb hc => by
      simp only [List.mem_singleton] at hb
      subst hb
      exact absurd (h.own k _ hc).2.1 (by omega)) (fun m us E' mv hus hE hm => by
      subst hE; subst hm
      unfold SR
      rw [upd_at]
      exact ⟨by simp [Env.add, upd_at], #[], by simp only [Env.add, upd_at]; exact heap_alloc_new w _, rfl⟩)
  rw [← write_new] at h2
  exact ⟨.map (some w.heap.size), _, R, _, .inl (by simp [execOp, ho, Instr.makeMap]), h2.put o.dst (And.intro (by simp [write_new, upd_at]) (by simp [Env.add, upd_at]))⟩

theorem g_lookup (hT : TabOK P T) (h : Sim C s a w R E) {o : Oper} {S : TypeId} {x y : Operand} {ok : Bool} (ho : o.op = .lookup S x y ok) {n : Nat} {k : ByteArray} (hx : s.op x = .mref n) (hy : s.op y = .str k) {u : Unit} (hS : lookO S T.maps = some u) {es : List (ByteArray × Int)} (hm : s.st n = some (.mp es)) :
    Goal C P o s a w (bif ok then .tup [.int .i64 (mget k es), .bool (mhas k es)] else .int .i64 (mget k es)) [] := by
  obtain ⟨kt, e, i, h1, h2, h3, h4⟩ := hT.maps' hS
  have hvx := h.op x
  rw [hx] at hvx
  obtain ⟨_, hvx⟩ := rv_mref hvx
  have hvy := h.op y
  rw [hy] at hvy
  have hvy := rv_str hvy
  obtain ⟨hF, arr, hg, ha⟩ := h.mp hm
  have hz : (if mhas k es then (Value.int .i64 (mget k es), true) else (Value.int .i64 0, false)) = (Value.int .i64 (mget k es), mhas k es) := by
    cases hh : mhas k es with
    | true => rfl
    | false => rw [(mhas_not k 0 es hh).2.2]; rfl
  have hrun : (Instr.lookup S (.map (some (E.B n))) (.string k) ok).run P w = .ok (if ok then .tuple #[.int .i64 (mget k es), .bool (mhas k es)] else .int .i64 (mget k es)) w := by
    unfold Instr.lookup
    simp only [Sem.run_bind, run_underlying h1, Result.andThen_ok, MapKept.run_getObj_map hg, Sem.run_pure, run_checkKey _ h2, run_findKey h2 k ha]
    cases hh : mhas k es with
    | true => cases ok <;> simp
    | false => rw [(mhas_not k 0 es hh).2.2]; cases ok <;> simp [zeroValue, typeInfo, h3, h4]
  refine goal_pure h (u := if ok then .tuple #[.int .i64 (mget k es), .bool (mhas k es)] else .int .i64 (mget k es)) ?_ (by simp only [execOp, ho, hvx, hvy, Sem.run_bind, hrun, Result.andThen_ok, Sem.run_pure])
  cases ok with
  | true => exact ⟨[_, _], rfl, _, _, rfl, rfl, _, _, rfl, rfl, rfl⟩
  | false => rfl

theorem g_mapUpdate (hT : TabOK P T) (h : Sim C s a w R E) {o : Oper} {S : TypeId} {x y z : Operand} (ho : o.op = .mapUpdate S x y z) {n : Nat} {k : ByteArray} {v : Int} (hx : s.op x = .mref n) (hy : s.op y = .str k) (hz : s.op z = .int .i64 v) {u : Unit} (hS : lookO S T.maps = some u) {es : List (ByteArray × Int)} (hm : s.st n = some (.mp es)) :
    Goal C P o s a w .junk [⟨n, some (.mp (mput k v es)), false⟩] := by
  obtain ⟨kt, e, i, h1, h2, h3, h4⟩ := hT.maps' hS
  have hvx := h.op x
  rw [hx] at hvx
  obtain ⟨hu, hvx⟩ := rv_mref hvx
  have hvy := h.op y
  rw [hy] at hvy
  have hvy := rv_str hvy
  have hvz := h.op z
  rw [hz] at hvz
  have hvz := rv_int hvz
  obtain ⟨hF, arr, hg, ha⟩ := h.mp hm
  have key : ∃ arr', arr'.toList = mpEnt 0 (mput k v es) ∧ (Instr.mapUpdate S (.map (some (E.B n))) (.string k) (.int .i64 v)).run P w = .ok () { w with heap := w.heap.setIfInBounds (E.B n) (.map arr' (mput k v es).length) } := by
    unfold Instr.mapUpdate
    simp only [Sem.run_bind, run_underlying h1, Result.andThen_ok, MapKept.run_getObj_map hg, Sem.run_pure, run_checkKey _ h2, run_findKey h2 k ha]
    cases hh : mhas k es with
    | true =>
      obtain ⟨v0, hv0⟩ := mpEnt_at k es 0 hh
      have hat : arr[midx k es]? = some ⟨.string k, .int .i64 v0, 0 + midx k es⟩ := by rw [← Array.getElem?_toList, ha]; exact hv0
      refine ⟨arr.modify (midx k es) fun e => { e with key := .string k, val := .int .i64 v }, by rw [Array.toList_modify, ha, mpEnt_mod k v es 0 hh], ?_⟩
      simp [hat, run_stays, MapKept.run_setObj_map _ hg, mput_len k v es hh]
    | false =>
      obtain ⟨e1, e2, e3⟩ := mhas_not k v es hh
      refine ⟨arr.push ⟨.string k, .int .i64 v, es.length⟩, by rw [Array.toList_push, ha, e1, mpEnt_app]; simp [mpEnt], ?_⟩
      simp [MapKept.run_setObj_map _ hg, e1]
  obtain ⟨arr', ha', hrun⟩ := key
  exact ⟨undef, _, R, _, .inr ⟨rfl, by simp only [execOp, ho, hvx, hvy, hvz, Sem.run_bind, hrun, Result.andThen_ok, Sem.run_map, Sem.run_pure]⟩, h.setMp hu hm ha' o.dst trivial⟩

theorem g_mapEntry (hT : TabOK P T) (h : Sim C s a w R E) {o : Oper} {S : TypeId} {x y : Operand} (ho : o.op = .mapEntry S x y) {n : Nat} {k : ByteArray} (hx : s.op x = .mref n) (hy : s.op y = .str k) {u : Unit} (hS : lookO S T.maps = some u) {es : List (ByteArray × Int)} (hm : s.st n = some (.mp es)) :
    Goal C P o s a w (.tup [.int .i64 (mget k es), .int .i64 (midx k es : Int)]) [⟨n, some (.mp (mput k (mget k es) es)), false⟩] := by
  obtain ⟨kt, e, i, h1, h2, h3, h4⟩ := hT.maps' hS
  have hvx := h.op x
  rw [hx] at hvx
  obtain ⟨hu, hvx⟩ := rv_mref hvx
  have hvy := h.op y
  rw [hy] at hvy
  have hvy := rv_str hvy
  obtain ⟨hF, arr, hg, ha⟩ := h.mp hm
  have key : ∃ arr', arr'.toList = mpEnt 0 (mput k (mget k es) es) ∧ (Instr.mapEntry S (.map (some (E.B n))) (.string k)).run P w = .ok (.tuple #[.int .i64 (mget k es), .int .i64 (midx k es : Int)]) { w with heap := w.heap.setIfInBounds (E.B n) (.map arr' (mput k (mget k es) es).length) } := by
    unfold Instr.mapEntry
    simp only [Sem.run_bind, run_underlying h1, Result.andThen_ok, MapKept.run_getObj_map hg, Sem.run_pure, run_checkKey _ h2, run_findKey h2 k ha]
    cases hh : mhas k es with
    | true =>
      obtain ⟨v0, hv0⟩ := mpEnt_at k es 0 hh
      have hat : arr[midx k es]? = some ⟨.string k, .int .i64 v0, 0 + midx k es⟩ := by rw [← Array.getElem?_toList, ha]; exact hv0
      refine ⟨arr.modify (midx k es) fun e => { e with key := .string k }, by rw [Array.toList_modify, ha, mpEnt_modk k es 0 hh], ?_⟩
      simp [hat, run_stays, MapKept.run_setObj_map _ hg, mput_len k _ es hh, goInt]
    | false =>
      obtain ⟨e1, e2, e3⟩ := mhas_not k (mget k es) es hh
      refine ⟨arr.push ⟨.string k, .int .i64 0, es.length⟩, by rw [Array.toList_push, ha, e1, e3, mpEnt_app]; simp [mpEnt], ?_⟩
      rw [e1, e3]
      simp [MapKept.run_setObj_map _ hg, e2, zeroValue, typeInfo, h3, h4, goInt]
  obtain ⟨arr', ha', hrun⟩ := key
  exact ⟨.tuple #[.int .i64 (mget k es), .int .i64 (midx k es : Int)], _, R, _, .inl (by simp only [execOp, ho, hvx, hvy, Sem.run_bind, hrun, Result.andThen_ok, Sem.run_map, Sem.run_pure]), h.setMp hu hm ha' o.dst ⟨[_, _], rfl, _, _, rfl, rfl, _, _, rfl, rfl, rfl⟩⟩

theorem g_entryStore (h : Sim C s a w R E) {o : Oper} {S : TypeId} {x y z : Operand} (ho : o.op = .entryStore S x y z) {n : Nat} {i v : Int} (hx : s.op x = .mref n) (hy : s.op y = .int .i64 i) (hz : s.op z = .int .i64 v) {es : List (ByteArray × Int)} (hm : s.st n = some (.mp es)) (h0 : 0 ≤ i) (h1 : i < (es.length : Int)) :
    Goal C P o s a w .junk [⟨n, some (.mp (es.modify i.toNat fun e => (e.1, v))), false⟩] := by
  have hvx := h.op x
  rw [hx] at hvx
  obtain ⟨hu, hvx⟩ := rv_mref hvx
  have hvy := h.op y
  rw [hy] at hvy
  have hvy := rv_int hvy
  have hvz := h.op z
  rw [hz] at hvz
  have hvz := rv_int hvz
  obtain ⟨hF, arr, hg, ha⟩ := h.mp hm
  have hfind : arr.findIdx? (fun e => (e.born : Int) == i) = some i.toNat := by
    have := mpEnt_find es 0 i.toNat (by omega)
    rw [← ha, ← List.findIdx?_toArray, Array.toArray_toList] at this
    rw [show ((0 + i.toNat : Nat) : Int) = i by omega] at this
    exact this
  have hrun : (Instr.entryStore S (.map (some (E.B n))) (.int .i64 i) (.int .i64 v)).run P w = .ok () { w with heap := w.heap.setIfInBounds (E.B n) (.map (arr.modify i.toNat fun e => { e with val := .int .i64 v }) es.length) } := by
    unfold Instr.entryStore
    simp [MapKept.run_getObj_map hg, asInt, asIntOf, hfind, MapKept.run_setObj_map _ hg]
  have hs := h.setMp hu hm (es' := es.modify i.toNat fun e => (e.1, v)) (arr := arr.modify i.toNat fun e => { e with val := .int .i64 v }) (by rw [Array.toList_modify, ha, mpEnt_set]) o.dst (v := .junk) (u := undef) trivial
  rw [List.length_modify] at hs
  exact ⟨undef, _, R, _, .inr ⟨rfl, by simp only [execOp, ho, hvx, hvy, hvz, Sem.run_bind, hrun, Result.andThen_ok, Sem.run_map, Sem.run_pure]⟩, hs⟩

theorem g_len_map (hT : TabOK P T) (h : Sim C s a w R E) {o : Oper} {c : Call} (ho : o.op = .call c) (hc : c.callee = .builtin .len) {x : Operand} (hx : c.args = #[x]) {S : TypeId} (hS : c.argTypes[0]? = some S) {u : Unit} (hS2 : lookO S T.maps = some u) {n : Nat} (hr : s.op x = .mref n) {es : List (ByteArray × Int)} (hm : s.st n = some (.mp es)) :
    Goal C P o s a w (.int .i64 (es.length : Int)) [] := by
  obtain ⟨kt, e, i, h1, h2, h3, h4⟩ := hT.maps' hS2
  have hvx := h.op x
  rw [hr] at hvx
  obtain ⟨hu, hvx⟩ := rv_mref hvx
  obtain ⟨hF, arr, hg, ha⟩ := h.mp hm
  have hl : arr.size = es.length := by rw [← Array.length_toList, ha, mpEnt_len]
  exact goal_pure h (u := .int .i64 (es.length : Int)) rfl (by simp [execOp, ho, resolve, hc, hx, invoke, builtin, Builtin.len_, hS, hvx, run_underlying h1, goInt, MapKept.run_getObj_map hg, hl])

/-! values of an interface -/
theorem g_makeInterface (hT : TabOK P T) (h : Sim C s a w R E) {o : Oper} {X : TypeId} {x : Operand} (ho : o.op = .makeInterface X x) {cs : List AV} (hx : s.op x = .agg cs) {t : CT} (hl : lookO X T.lay = some (true, t)) : Goal C P o s a w (.ifc X cs) [] := by
  obtain ⟨_, d, hd, hsh⟩ := hT.lay' hl
  have hvx := h.op x
  rw [hx] at hvx
  obtain ⟨vs, e, h1⟩ := hvx
  have hrun : (Instr.makeInterface X (a.eval x)).run P w = .ok (.iface X (a.eval x)) w := by
    unfold Instr.makeInterface
    simp only [Sem.run_bind, run_underlying hd, Result.andThen_ok]
    cases d <;> first | rfl | (simp [shOf, shWant] at hsh)
  exact goal_pure h (u := .iface X (a.eval x)) ⟨vs, by rw [e], h1⟩ (by simp only [execOp, ho, Sem.run_bind, hrun, Result.andThen_ok, Sem.run_map, Sem.run_pure])
end Go.Ev
