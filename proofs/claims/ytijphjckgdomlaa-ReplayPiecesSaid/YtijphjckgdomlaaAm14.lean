/-
  'append'; then all operations but the calls of functions, in one.
-/
import Derived.Test.YtijphjckgdomlaaAm13
set_option linter.all false
namespace Am
open Go

section
variable {P : Program} {T : Tab} {g g' : Gh} {nx nx' : Nat} {w w' : World} {s s0 : Sto} {e : Env} {a : Act}
variable {tri : FuncId → List AV → Sto → Nat → (AV → Sto → Nat → Prop) → Prop} {weak : St → St → Prop} {K : AV → Sto → Nat → Prop}

/-- Fewer objects. -/
def Sub (s0 s : Sto) : Prop := ∀ id o, look id s0 = some o → look id s = some o
theorem Sub.refl (s : Sto) : Sub s s := fun _ _ h => h
theorem Sub.del (k : Nat) (s : Sto) : Sub (del k s) s := fun id o h => by
  rw [look_del] at h
  split at h
  · cases h
  · exact h
theorem Rel.sub (hR : Rel P g nx s w) (h : Sub s0 s) : Rel P g nx s0 w :=
  ⟨fun id o hl => hR.obj id o (h _ _ hl), fun id o hl => hR.lt id o (h _ _ hl), fun id id' o o' h1 h2 => hR.inj id id' o o' (h _ _ h1) (h _ _ h2),
    fun b q ⟨id, o, hl, hp, hb⟩ => hR.nofz b q ⟨id, o, h _ _ hl, hp, hb⟩, hR.fzlt⟩
theorem own_sub (h : Sub s0 s) {b : Nat} (ho : own g s0 b) : own g s b := let ⟨id, o, h1, h2, h3⟩ := ho; ⟨id, o, h _ _ h1, h2, h3⟩
theorem Stp.more {O O' : Nat → Prop} (h : Stp O nx g w g' w') (hi : ∀ b, O b → O' b) : Stp O' nx g w g' w' :=
  ⟨h.size, fun b hb hn => h.blk b hb (fun ho => hn (hi b ho)), h.os, h.tape, h.output, h.bet, h.fz, fun b o hf => by
    rcases h.fzn b o hf with h1 | h1 | h1
    · exact .inl h1
    · exact .inr (.inl (hi b h1))
    · exact .inr (.inr h1)⟩
/-- A world in which something has been drawn. -/
theorem Rel.drew (hR : Rel P g nx s w) : Rel P g nx s w.drew := by
  have hk : Keeps nx g w g w.drew := ⟨fun _ _ => ⟨rfl, rfl, rfl⟩, fun _ _ h => h, fun _ _ _ => rfl⟩
  exact ⟨fun id o hl => (hR.obj id o hl).keeps hk (Nat.le_refl _) (hR.lt id o hl) (fun _ => rfl), hR.lt, hR.inj, hR.nofz, hR.fzlt⟩

theorem zero_cells (hT : TabOk P T) {u : Nat} {ti : TI} (hl : look u T = some ti) (n : Nat) : (Builtin.zeroCells ti.zero.cells n).size = n * ti.size ∧ ∀ y ∈ (Builtin.zeroCells ti.zero.cells n).toList, y.oneCell' = true := by
  refine ⟨by rw [size_zeroCells, (hT u ti hl).zsz], fun y hy => ?_⟩
  simp only [Builtin.zeroCells, Array.toList_map, List.mem_map] at hy
  obtain ⟨i, hi, rfl⟩ := hy
  have hi : i < n * ti.zero.cells.size := by simpa using hi
  have hpos : 0 < ti.zero.cells.size := by
    rcases Nat.eq_zero_or_pos ti.zero.cells.size with h0 | h0
    · rw [h0] at hi; omega
    · exact h0
  have hm := Nat.mod_lt i hpos
  rw [getElem!_pos ti.zero.cells _ hm]
  exact (hT u ti hl).zone _ (by simp)

/-- The elements that come to it. -/
structure Adds (P : Program) (g : Gh) (nx : Nat) (w : World) (sz : Nat) (tx : TypeId) (x : Value) (m : Nat) (news : List Value) (f : Nat → List CV) : Prop where
  src : Src P sz tx x m news w
  len : ∀ i, i < m → (f i).length = sz
  rel : ∀ (i j : Nat) (c : CV) (y : Value), i < m → (f i)[j]? = some c → news[i * sz + j]? = some y → CRel g nx w c y

theorem join_rel {R : CV → Value → Prop} {sz n m : Nat} {f h : Nat → List CV} {olds news rest : List Value} (hn : olds.length = n * sz) (hl : news.length = m * sz)
    (hf : ∀ (i j : Nat) (c : CV) (y : Value), i < n → (f i)[j]? = some c → olds[i * sz + j]? = some y → R c y) (hfl : ∀ i, i < n → (f i).length = sz)
    (hh : ∀ (i j : Nat) (c : CV) (y : Value), i < m → (h i)[j]? = some c → news[i * sz + j]? = some y → R c y) (hhl : ∀ i, i < m → (h i).length = sz) :
    (∀ i, i < n + m → (if i < n then f i else h (i - n)).length = sz) ∧
    ∀ (i j : Nat) (c : CV) (y : Value), i < n + m → (if i < n then f i else h (i - n))[j]? = some c → (olds ++ news ++ rest)[i * sz + j]? = some y → R c y := by
  refine ⟨fun i hi => ?_, fun i j c y hi hc hy => ?_⟩
  · by_cases h1 : i < n
    · rw [if_pos h1]; exact hfl i h1
    · rw [if_neg h1]; exact hhl _ (by omega)
  · rw [List.append_assoc] at hy
    by_cases h1 : i < n
    · rw [if_pos h1] at hc
      have hj : j < sz := by have := (List.getElem?_eq_some_iff.1 hc).1; rw [hfl i h1] at this; exact this
      have hlt : i * sz + j < olds.length := by
        have := Nat.mul_le_mul_right sz (show i + 1 ≤ n by omega)
        rw [Nat.succ_mul] at this
        omega
      rw [List.getElem?_append_left hlt] at hy
      exact hf i j c y h1 hc hy
    · rw [if_neg h1] at hc
      have hj : j < sz := by have := (List.getElem?_eq_some_iff.1 hc).1; rw [hhl _ (by omega)] at this; exact this
      have e1 : i * sz = n * sz + (i - n) * sz := by rw [← Nat.add_mul]; congr 1; omega
      have hge : olds.length ≤ i * sz + j := by omega
      rw [List.getElem?_append_right hge, hn] at hy
      have e2 : i * sz + j - n * sz = (i - n) * sz + j := by omega
      rw [e2] at hy
      have hlt : (i - n) * sz + j < news.length := by
        have := Nat.mul_le_mul_right sz (show i - n + 1 ≤ m by omega)
        rw [Nat.succ_mul] at this
        omega
      rw [List.getElem?_append_left hlt] at hy
      exact hh (i - n) j c y (by omega) hc hy

theorem append_room {t tx ty u : TypeId} {i : TypeInfo} (ht : P.underlying t = some (.slice u)) (hi : P.info? u = some i) {b n cap : Nat} {x : Value} {m : Nat} {news : List Value} (hs : Src P i.size tx x m news w)
    (hroom : n + m ≤ cap) {ys : List Value} {v : Nat} (hb : w.heap[b]? = some (.cells ys.toArray v (0, 0))) (hfit : n * i.size + news.length ≤ ys.length) :
    (Builtin.append_ #[t, tx] ty #[.slice (some ⟨b, 0, none⟩) n cap, x]).run P w = .ok (.slice (some ⟨b, 0, none⟩) (n + m) cap) (w.setRow b (ys.take (n * i.size) ++ news ++ ys.drop (n * i.size + news.length)).toArray) := by
  have hst := run_storeCells_at P b (n * i.size) v news 0 ys.toArray w hb (by simpa using hfit) hs.one
  simp only [Nat.add_zero] at hst
  rcases hs.kind with ⟨e', hk⟩ | hk <;> simp [Builtin.append_, run_underlying ht, run_underlying hk, Go.sizeOf, typeInfo, hi, hs.len, hroom, hs.cells, Addr.add_lit, hst]

/-- The row that was too short, or nil: a new one. -/
theorem append_new (hT : TabOk P T) (hR : Rel P g nx s w) (hsub : Sub s0 s) {t tx ty u : TypeId} {ti : TI} (hu : P.underlying t = some (.slice u)) (hl : look u T = some ti) {x : Value} {m : Nat} {news : List Value} {f h : Nat → List CV}
    (hs : Adds P g nx w ti.size tx x m news h) {base : Option Addr} {n cap : Nat} {olds : List Value} (hold : (Builtin.firstCells ti.size n (.slice base n cap)).run P w.drew = .ok olds.toArray w.drew)
    (hol : olds.length = n * ti.size) (hf : ∀ (i j : Nat) (c : CV) (y : Value), i < n → (f i)[j]? = some c → olds[i * ti.size + j]? = some y → CRel g nx w c y) (hfl : ∀ i, i < n → (f i).length = ti.size) (hone : ∀ y ∈ olds, y.oneCell' = true)
    (hg : cap < n + m) (hm : n + m ≤ maxLen) (hb : (n + m) * ti.bytes ≤ 140737488355328)
    (hK : K (.c (.ref nx ti.size 0 (n + m))) ((nx, .arr u ti.size (n + m) (fun i => if i < n then f i else h (i - n))) :: s0) (nx + 1)) :
    Does true P g nx s w K (do pure (.value (← Builtin.append_ #[t, tx] ty #[.slice base n cap, x]))) := by
  obtain ⟨inf, hi, his, hib, hiz⟩ := (hT u ti hl).info
  have hrun := run_append_grow_src (P := P) w t tx ty u inf ti.zero hu hi hiz base n cap olds (by rw [his]; exact hold) x m news (by rw [his]; exact hs.src) hg (by simp only [maxLen] at hm; omega) (by rw [hib]; exact growslice_fits hg hb)
  obtain ⟨k, hk⟩ : ∃ k, k = grownCap w (n + m) cap u := ⟨_, rfl⟩
  have hge : n + m ≤ k := by rw [hk]; exact grownCap_ge w _ _ _
  have hle : k ≤ maxLen := by rw [hk]; exact grownCap_le_maxLen w _ _ _ hm
  rw [← hk] at hrun
  obtain ⟨hz1, hz2⟩ := zero_cells hT hl (k - (n + m))
  obtain ⟨r1, r2, r3⟩ := (hR.sub hsub).drew.fresh k (w' := w.drew.alloc (.cells ((olds ++ news).toArray ++ Builtin.zeroCells ti.zero.cells (k - (n + m))) u)) (o := .arr u ti.size (n + m) (fun i => if i < n then f i else h (i - n))) rfl rfl rfl rfl (fun hKp => by
    have hj := join_rel (R := CRel g nx w) (rest := (Builtin.zeroCells ti.zero.cells (k - (n + m))).toList) hol hs.src.newsLen hf hfl hs.rel hs.len
    have hKp' : Keeps nx g w (g.add nx w.drew.heap.size k false) (w.drew.alloc (.cells ((olds ++ news).toArray ++ Builtin.zeroCells ti.zero.cells (k - (n + m))) u)) := ⟨hKp.bet, hKp.fz, hKp.cell⟩
    refine .arr u ti.size (n + m) _ (olds ++ news ++ (Builtin.zeroCells ti.zero.cells (k - (n + m))).toList) (by simp [Gh.add]) ?_ (by simpa [Gh.add] using hge) (by simpa [Gh.add] using hle) ?_ hj.1 (fun i j c y h1 h2 h3 => (hj.2 i j c y h1 h2 h3).keeps hKp' (Nat.le_succ _)) ?_
    · simp only [Gh.add, if_true]
      rw [heap_alloc_new]
      congr 2
      apply Array.ext'
      simp
    · simp only [List.length_append, Array.length_toList, hol, hs.src.newsLen, hz1, Gh.add, if_true, ← Nat.add_mul]
      congr 1
      omega
    · intro y hy
      simp only [List.mem_append] at hy
      rcases hy with (hy | hy) | hy
      · exact hone y hy
      · exact hs.src.one y hy
      · exact hz2 y hy)
  have hst : Stp (own g s) nx g w (g.add nx w.heap.size k false) (w.drew.alloc (.cells ((olds ++ news).toArray ++ Builtin.zeroCells ti.zero.cells (k - (n + m))) u)) :=
    ⟨r2.size, fun b hb hn => r2.blk b hb (fun ho => hn (own_sub hsub ho)), r2.os, r2.tape, r2.output, r2.bet, r2.fz, fun b o hf => .inl hf⟩
  exact ⟨_, .slice (some ⟨w.heap.size, 0, none⟩) (n + m) k, _, _, _, _, hK, Nat.le_succ _, r1, hst, (fun b hb => (r3 b hb).imp (own_sub hsub) id), vref_new hge (by simp [Gh.add]) (by simp [Gh.add]) (by simp [Gh.add]), .inl (by simp [hrun]), fun h => by cases h⟩

/-- Nothing to a nil slice. -/
theorem append_nothing (hT : TabOk P T) (hR : Rel P g nx s w) (hsub : Sub s0 s) {t tx ty u : TypeId} {ti : TI} (hu : P.underlying t = some (.slice u)) (hl : look u T = some ti) {x : Value} {news : List Value} {f h : Nat → List CV}
    (hs : Adds P g nx w ti.size tx x 0 news h) (hK : K (.c (.ref nx ti.size 0 0)) ((nx, .arr u ti.size 0 f) :: s0) (nx + 1)) :
    Does true P g nx s w K (do pure (.value (← Builtin.append_ #[t, tx] ty #[.slice none 0 0, x]))) := by
  obtain ⟨inf, hi, his, _⟩ := (hT u ti hl).info
  have hn : news = [] := List.eq_nil_of_length_eq_zero (by have := hs.src.newsLen; omega)
  subst hn
  have hrun := run_append_nothing (P := P) w t tx ty u inf hu hi none 0 0 (Nat.le_refl _) x (by rw [his]; exact hs.src)
  have hst : Stp (own g s) nx g w (g.add nx 0 0 true) w := stp_add _ _ _ (Nat.le_refl _) (fun _ _ _ => rfl) rfl rfl rfl
  have hKp := hst.keeps hR (fun _ h => h)
  refine ⟨_, .slice none 0 0, g.add nx 0 0 true, _, _, w, hK, Nat.le_succ _, ?_, hst, (fun b ⟨id, o2, h1, h2, h3⟩ => ?_), .c _ _ (.refnil nx ti.size (Nat.lt_succ_self _) (by simp [Gh.add])), .inl (by simp [hrun]), fun h => by cases h⟩
  refine (hR.sub hsub).put hKp (Nat.le_succ _) rfl (Nat.le_refl _) (k := nx) (o' := .arr u ti.size 0 f) (fun id o h => ?_) (Nat.lt_succ_self _) (.arrnil _ _ _ (by simp [Gh.add])) (fun id o _ _ _ hp => ?_) (fun hp => ?_)
  · rw [look_cons] at h
    by_cases h1 : id = nx
    · rw [if_pos h1] at h; injection h with h; exact .inl ⟨h1, h.symm⟩
    · rw [if_neg h1] at h; exact .inr ⟨h1, h, fun _ => rfl⟩
  · simp [phys, Gh.add] at hp
  · simp [phys, Gh.add] at hp
  · rw [look_cons] at h1
    by_cases hid : id = nx
    · subst hid
      rw [if_pos rfl] at h1
      injection h1 with h1
      subst h1
      simp [phys, Gh.add] at h2
    · rw [if_neg hid] at h1
      have h1 := hsub _ _ h1
      have hlt := hR.lt id o2 h1
      have := hst.bet id hlt
      rw [phys_bet this.2.2] at h2
      rw [this.1] at h3
      exact .inl ⟨id, o2, h1, h2, h3⟩

theorem appA_sound (hT : TabOk P T) (hR : Rel P g nx s w) {t tx ty : Nat} {x : AV} {xv y : Value} (hx : VRel g nx w x xv) {zs : Option Nat} {m : Nat} {news : List Value} {h : Nat → List CV}
    (hs : ∀ ti : TI, (match zs with | some z => Nat.beq z ti.size | none => true) = true → Adds P g nx w ti.size tx y m news h) (hK : (appA (real tri weak) T t x zs m h s nx).sat K) :
    Does true P g nx s w K (do pure (.value (← Builtin.append_ #[t, tx] ty #[xv, y]))) := by
  unfold appA at hK
  split at hK
  case h_2 => exact hK.elim
  rename_i u hk
  split at hK
  case h_2 => exact hK.elim
  rename_i ti hl
  have hu := kind_slice hT hk
  have nilcase : ∀ (s0 : Sto) (f : Nat → List CV), Sub s0 s → Adds P g nx w ti.size tx y m news h → m ≤ maxLen → m * ti.bytes ≤ 140737488355328 → (m = 0 → K (.c (.ref nx ti.size 0 0)) ((nx, .arr u ti.size 0 f) :: s0) (nx + 1)) →
      (m ≠ 0 → K (.c (.ref nx ti.size 0 (0 + m))) ((nx, .arr u ti.size (0 + m) (fun i => if i < 0 then (fun _ => []) i else h (i - 0))) :: s0) (nx + 1)) →
      Does true P g nx s w K (do pure (.value (← Builtin.append_ #[t, tx] ty #[.slice none 0 0, y]))) := by
    intro s0 f hsub ha h1 h2 h3 h4
    by_cases hm : m = 0
    · subst hm
      exact append_nothing hT hR hsub hu hl ha (h3 rfl)
    · refine append_new hT hR hsub hu hl (f := fun _ => []) (n := 0) (cap := 0) (olds := []) ha (by rw [run_firstCells_none]) (by simp) (fun i j c y hi => by omega) (fun i hi => by omega) (by simp) (by omega) (by omega) (by rw [Nat.zero_add]; exact h2) (h4 hm)
  have e0 : ∀ m : Nat, (fun i => if i < 0 then (fun _ => []) i else h (i - 0)) = h := fun m => by funext i; simp
  split at hK
  · rename_i hz _
    rw [vv hx]
    obtain ⟨⟨h1, h2⟩, hK⟩ := hK
    refine nilcase s h (Sub.refl s) (hs ti hz) h1 h2 (fun hm => ?_) (fun hm => ?_)
    · subst hm; exact hK
    · rw [e0 0, Nat.zero_add]; exact hK
  · rename_i id _ n hz _
    have ha := hs ti hz
    split at hK
    case h_2 => exact hK.elim
    rename_i v sz k f hlk
    split at hK
    case h_2 => exact hK.elim
    rename_i hv hsz
    have hv := eqt hv
    have hsz := eqt hsz
    subst hv
    subst hsz
    obtain ⟨⟨_, _, h0⟩, ⟨h1, h2⟩, hK⟩ := hK
    have h0 : n ≤ k := Int.ofNat_le.mp h0
    have h1 : n + m ≤ maxLen := h1
    have h2 : (n + m) * ti.bytes ≤ 140737488355328 := h2
    have hK : K (.c (.ref nx ti.size 0 (n + m))) ((nx, .arr v ti.size (n + m) (fun i => if i < n then f i else h (i - n))) :: del id s) (nx + 1) := hK
    obtain ⟨hid, ⟨rfl, _, rfl, hnl⟩ | ⟨cap, rfl, hnl, hcap, hle⟩⟩ := vref hx
    · refine nilcase (del id s) h (Sub.del id s) ha (by omega) (by rw [Nat.zero_add] at h2; exact h2) (fun hm => ?_) (fun hm => ?_)
      · subst hm
        simpa using hK
      · simpa using hK
    · cases hR.obj id _ hlk with
      | arrnil _ _ _ hn' => rw [hn'] at hnl; cases hnl
      | arr _ _ _ _ ys hn' hb hkk hm hsz hlen hcr hone =>
        have hcapk : cap = g.κ id := by omega
        have hyl : n * ti.size ≤ ys.length := by rw [hsz]; exact Nat.mul_le_mul_right _ (by omega)
        have hol : (ys.take (n * ti.size)).length = n * ti.size := by simp; omega
        have hof : ∀ (i j : Nat) (c : CV) (y : Value), i < n → (f i)[j]? = some c → (ys.take (n * ti.size))[i * ti.size + j]? = some y → CRel g nx w c y := by
          intro i j c y hi hc hy
          rw [List.getElem?_take] at hy
          split at hy
          · exact hcr i j c y (by omega) hc hy
          · cases hy
        obtain ⟨inf, hi, his, hib, hiz⟩ := (hT _ ti hl).info
        rw [Nat.zero_mul]
        by_cases hroom : n + m ≤ cap
        · have hnl2 : news.length = m * ti.size := ha.src.newsLen
          have hfit : n * ti.size + news.length ≤ ys.length := by rw [hnl2, hsz, ← Nat.add_mul]; exact Nat.mul_le_mul_right _ (by omega)
          have hrun := append_room (w := w) (P := P) (t := t) (tx := tx) (ty := ty) hu hi (b := g.β id) (n := n) (cap := cap) (x := y) (m := m) (news := news) (by rw [his]; exact ha.src) hroom hb (by rw [his]; exact hfit)
          obtain ⟨zs, hzs⟩ : ∃ zs, zs = ys.take (n * ti.size) ++ news ++ ys.drop (n * ti.size + news.length) := ⟨_, rfl⟩
          rw [his, ← hzs] at hrun
          have hph : phys g id (.arr v ti.size k f) = true := by simp [phys, hnl]
          have hst : Stp (own g s) nx g w (g.add nx (g.β id) (g.κ id) false) (w.setRow (g.β id) zs.toArray) :=
            stp_add _ _ _ (Nat.le_of_eq (setRow_size _ _ _).symm) (fun b _ hn => setRow_other w _ b _ (fun e => hn ⟨id, _, hlk, hph, e.symm⟩)) rfl rfl rfl
          have hKp := hst.keeps hR (fun _ h => h)
          have hj := join_rel (R := CRel g nx w) (rest := ys.drop (n * ti.size + news.length)) hol hnl2 hof (fun i hi => hlen i (by omega)) ha.rel ha.len
          refine ⟨_, .slice (some ⟨g.β id, 0, none⟩) (n + m) cap, _, _, _, _, hK, Nat.le_succ _, ?_, hst, (fun b ⟨id2, o2, q1, q2, q3⟩ => ?_), vref_new hroom (by simp [Gh.add]) (by simp [Gh.add]) (by simp [Gh.add, hcapk]), .inl (by simp [hrun]), fun h => by cases h⟩
          refine hR.put hKp (Nat.le_succ _) rfl (Nat.le_of_eq (setRow_size _ _ _).symm) (k := nx) (o' := .arr v ti.size (n + m) (fun i => if i < n then f i else h (i - n))) (fun id2 o2 h => ?_) (Nat.lt_succ_self _) ?_ (fun id2 o2 hne h hp2 _ he => ?_) (fun _ q => ?_)
          · rw [look_cons] at h
            by_cases h1 : id2 = nx
            · rw [if_pos h1] at h; injection h with h; exact .inl ⟨h1, h.symm⟩
            · rw [if_neg h1, look_del] at h
              by_cases h2 : id2 = id
              · rw [if_pos h2] at h; cases h
              · rw [if_neg h2] at h
                exact .inr ⟨h1, h, fun hp2 => setRow_other w _ _ _ (fun he => h2 (hR.inj id2 id _ _ h hlk hp2 hph he))⟩
          · refine .arr v ti.size (n + m) _ zs (by simp [Gh.add]) (by simp only [Gh.add, if_true]; exact setRow_heap w _ _ _ _ _ hb) (by simp [Gh.add]; omega) (by simp [Gh.add, hm]) ?_ hj.1 (fun i j c y q1 q2 q3 => ?_) ?_
            · simp only [Gh.add, if_true, ← hsz, hzs]
              simp
              omega
            · rw [hzs] at q3
              exact (hj.2 i j c y q1 q2 q3).keeps hKp (Nat.le_succ _)
            · intro y hy
              simp only [hzs, List.mem_append] at hy
              rcases hy with (hy | hy) | hy
              · exact hone y (List.mem_of_mem_take hy)
              · exact ha.src.one y hy
              · exact hone y (List.mem_of_mem_drop hy)
          · rw [look_cons, if_neg hne, look_del] at h
            by_cases h2 : id2 = id
            · rw [if_pos h2] at h; cases h
            · rw [if_neg h2] at h
              simp only [Gh.add, if_true] at he
              exact h2 (hR.inj id2 id _ _ h hlk hp2 hph he)
          · simp only [Gh.add, if_true]
            exact hR.nofz _ q ⟨id, _, hlk, hph, rfl⟩
          · rw [look_cons] at q1
            by_cases h1 : id2 = nx
            · subst h1
              simp only [Gh.add, if_true] at q3
              exact .inl ⟨id, _, hlk, hph, q3⟩
            · rw [if_neg h1, look_del] at q1
              by_cases h2 : id2 = id
              · rw [if_pos h2] at q1; cases q1
              · rw [if_neg h2] at q1
                have := hst.bet id2 (hR.lt id2 o2 q1)
                rw [phys_bet this.2.2] at q2
                rw [this.1] at q3
                exact .inl ⟨id2, o2, q1, q2, q3⟩
        · refine append_new hT hR (Sub.del id s) hu hl (f := f) (olds := ys.take (n * ti.size)) ha ?_ hol hof (fun i hi => hlen i (by omega)) (fun y hy => hone y (List.mem_of_mem_take hy)) (by omega) h1 h2 hK
          refine run_firstCells_some w.drew ti.size n ⟨g.β id, 0, none⟩ n cap _ hol (fun j u hj => ?_)
          rw [add_none, Nat.zero_add]
          have hb' : w.drew.heap[g.β id]? = some (.cells ys.toArray v (0, 0)) := hb
          rw [cell_of_row w.drew _ _ _ _ _ hb']
          rw [List.getElem?_take] at hj
          split at hj
          · simpa using hj
          · cases hj
  · exact hK.elim

theorem row_cells (f : Nat → List CV) (sz : Nat) {m : Nat} (_ : ∀ i, i < m → (f i).length = sz) {vals : Nat → Nat → Value} :
    ∃ news : List Value, news.length = m * sz ∧ (∀ i j, i < m → j < sz → news[i * sz + j]? = some (vals i j)) := by
  refine ⟨(List.range (m * sz)).map fun p => vals (p / sz) (p % sz), by simp, fun i j hi hj => ?_⟩
  have hlt : i * sz + j < m * sz := by
    have := Nat.mul_le_mul_right sz (show i + 1 ≤ m by omega)
    rw [Nat.succ_mul] at this
    omega
  have hpos : 0 < sz := by omega
  rw [List.getElem?_map, List.getElem?_range hlt]
  simp only [Option.map_some]
  rw [Nat.mul_comm, Nat.mul_add_div hpos, Nat.mul_add_mod, Nat.div_eq_of_lt hj, Nat.mod_eq_of_lt hj, Nat.add_zero]

theorem sl_adds {sz m k : Nat} {f : Nat → List CV} {y : Value} {tx e' : Nat} (hk : P.underlying tx = some (.slice e')) (hy : VRel g nx w (.c (.sl sz m k f)) y) : ∃ news, Adds P g nx w sz tx y m news f := by
  rcases vsl hy with ⟨rfl, rfl, rfl⟩ | ⟨b, o, cap, vals, rfl, hcap, hmax, hlen, hc, hf, hr⟩
  · exact ⟨[], Src.ofNil w hk 0, fun i hi => by omega, fun i j c y hi => by omega⟩
  · obtain ⟨news, h1, h2⟩ := row_cells f sz (m := m) (fun i hi => hlen i (by omega)) (vals := vals)
    have hp : ∀ p v, news[p]? = some v → ∃ i j, i < m ∧ j < sz ∧ p = i * sz + j ∧ v = vals i j ∧ ∃ c, (f i)[j]? = some c := by
      intro p v hv
      have hpl : p < m * sz := by rw [← h1]; exact (List.getElem?_eq_some_iff.1 hv).1
      have hpos : 0 < sz := by
        rcases Nat.eq_zero_or_pos sz with h0 | h0
        · subst h0; omega
        · exact h0
      have hi : p / sz < m := (Nat.div_lt_iff_lt_mul hpos).2 hpl
      have hj := Nat.mod_lt p hpos
      have e : p = p / sz * sz + p % sz := by rw [Nat.mul_comm, Nat.div_add_mod]
      refine ⟨p / sz, p % sz, hi, hj, e, ?_, ?_⟩
      · have := h2 _ _ hi hj
        rw [← e, hv] at this
        injection this
      · have hl := hlen (p / sz) (by omega)
        exact ⟨_, List.getElem?_eq_getElem (by omega)⟩
    refine ⟨news, Src.ofSlice w hk ⟨b, o, none⟩ m cap news h1 (fun p v hv => ?_) (fun v hv => ?_), fun i hi => hlen i (by omega), fun i j c y hi hc' hy' => ?_⟩
    · obtain ⟨i, j, hi, hj, rfl, rfl, c, hcc⟩ := hp p v hv
      rw [add_none]
      exact hc i j c (by omega) hcc
    · obtain ⟨p, hv⟩ := List.getElem?_of_mem hv
      obtain ⟨i, j, hi, hj, rfl, rfl, c, hcc⟩ := hp p v hv
      exact crel_one (g := g) (nx := nx) (.d _ _ (hr i j c (by omega) hcc))
    · have hj : j < sz := by have := (List.getElem?_eq_some_iff.1 hc').1; rw [hlen i (by omega)] at this; exact this
      rw [h2 i j hi hj] at hy'
      injection hy' with hy'
      subst hy'
      exact .d _ _ (hr i j c (by omega) hc')

theorem ref_adds (hR : Rel P g nx s w) {id sz off m u n : Nat} {f : Nat → List CV} {y : Value} {tx e' : Nat} (hk : P.underlying tx = some (.slice e')) (hy : VRel g nx w (.c (.ref id sz off m)) y) (hl : look id s = some (.arr u sz n f)) (hle : off + m ≤ n) :
    ∃ news, Adds P g nx w sz tx y m news (fun i => f (i + off)) := by
  obtain ⟨hid, ⟨rfl, rfl, rfl, hnl⟩ | ⟨cap, rfl, hnl, hcap, hlc⟩⟩ := vref hy
  · exact ⟨[], Src.ofNil w hk 0, fun i hi => by omega, fun i j c y hi => by omega⟩
  · cases hR.obj id _ hl with
    | arrnil _ _ _ hn' => rw [hn'] at hnl; cases hnl
    | arr _ _ _ _ ys hn' hb hkk hm hsz hlen hcr hone =>
      have hle2 : off * sz + m * sz ≤ ys.length := by rw [hsz, ← Nat.add_mul]; exact Nat.mul_le_mul_right _ (by omega)
      have hlen2 : ((ys.drop (off * sz)).take (m * sz)).length = m * sz := by simp; omega
      refine ⟨(ys.drop (off * sz)).take (m * sz), Src.ofSlice w hk ⟨g.β id, off * sz, none⟩ m cap _ hlen2 (fun p v hv => ?_) (fun v hv => hone v (List.mem_of_mem_drop (List.mem_of_mem_take hv))), fun i hi => hlen _ (by omega), fun i j c y hi hc' hy' => ?_⟩
      · rw [add_none, cell_of_row w _ _ _ _ _ hb]
        rw [List.getElem?_take] at hv
        split at hv
        · rw [List.getElem?_drop] at hv; simpa using hv
        · cases hv
      · rw [List.getElem?_take] at hy'
        split at hy'
        · rw [List.getElem?_drop] at hy'
          refine hcr (i + off) j c y (by omega) hc' ?_
          rw [← hy', Nat.add_mul]
          congr 1
          omega
        · cases hy'

theorem str_adds {b : ByteArray} {tx : Nat} (hk : P.underlying tx = some .string) : ∃ news, Adds P g nx w 1 tx (.string b) b.size news (fun i => [.v (.int .u8 ((b.data.toList[i]?).getD 0).toNat)]) := by
  refine ⟨byteCells b, Src.ofString w hk b, fun i _ => rfl, fun i j c y hi hc hy => ?_⟩
  cases j with
  | succ j => simp at hc
  | zero =>
    simp at hc
    subst hc
    rw [Nat.mul_one, Nat.add_zero] at hy
    have hlt : i < b.data.toList.length := hi
    simp only [byteCells, List.getElem?_map, List.getElem?_eq_getElem hlt, Option.map_some] at hy
    injection hy with hy
    subst hy
    have hlt2 : i < b.data.size := hi
    have e : b.data[i]? = some b.data[i] := Array.getElem?_eq_getElem hlt2
    simp only [Array.getElem_toList, e, Option.getD_some]
    exact .d _ _ (.v _ rfl)

theorem none_adds {y : Value} {A : Option Addr} {sz tx e' : Nat} (hk : P.underlying tx = some (.slice e')) (hy : y = .slice A 0 0) : Adds P g nx w sz tx y 0 [] (fun _ => []) := by
  subst hy
  refine ⟨⟨.inl ⟨e', hk⟩, fun _ => rfl, ?_, ?_, by simp, fun _ h => by cases h⟩, fun i hi => by omega, fun i j c y hi => by omega⟩
  · cases A with
    | none => exact run_firstCells_none w sz 0 0 0
    | some b => simp [Builtin.firstCells, loadCells, loadCellsFrom]
  · cases A with
    | none => exact run_firstCells_none w.drew sz 0 0 0
    | some b => simp [Builtin.firstCells, loadCells, loadCellsFrom]

theorem append_sound (hT : TabOk P T) (hR : Rel P g nx s w) (hE : EnvRel g nx w e a.tmps) {c : Call} {x y : Operand} {t t2 : Nat} (hc : c.callee = .builtin .append) (ha : c.args.toList = [x, y]) (ht : c.argTypes.toList = [t, t2])
    {ty : Nat} (h : (aop (real tri weak) T (.call c) e s nx).sat K) : Does true P g nx s w K (do pure (.value (← Builtin.append_ #[t, t2] ty #[a.eval x, a.eval y]))) := by
  simp only [aop, hc, ha, ht] at h
  split at h
  · rename_i u b hx hy hk
    rw [vv (ev_rel hE hy)]
    obtain ⟨news, hn⟩ := str_adds (g := g) (nx := nx) (w := w) (b := b) (kind_string hT hk)
    refine appA_sound hT hR (ev_rel hE hx) (zs := some 1) (m := b.size) (news := news) (fun ti hz => ?_) h
    have := eqt hz
    rw [← this]
    exact hn
  · rename_i u z m k f e' hx hy hk
    obtain ⟨news, hn⟩ := sl_adds (kind_slice hT hk) (ev_rel hE hy)
    refine appA_sound hT hR (ev_rel hE hx) (zs := some z) (news := news) (fun ti hz => ?_) h
    have := eqt hz
    rw [← this]
    exact hn
  · rename_i u e' hx hy hk
    exact appA_sound hT hR (ev_rel hE hx) (zs := none) (news := []) (fun ti _ => none_adds (kind_slice hT hk) (vv (ev_rel hE hy))) h
  · rename_i u e' hx hy hk
    obtain ⟨A, hA⟩ := vz (ev_rel hE hy)
    exact appA_sound hT hR (ev_rel hE hx) (zs := none) (news := []) (fun ti _ => none_adds (kind_slice hT hk) hA) h
  · rename_i u id z off m e' hx hy hk
    split at h
    case h_2 => exact h.elim
    rename_i v z2 n f hl
    split at h
    case h_2 => exact h.elim
    rename_i hz
    have hz := eqt hz
    subst hz
    obtain ⟨⟨_, _, hle⟩, h⟩ := h
    have hle : off + m ≤ n := Int.ofNat_le.mp hle
    obtain ⟨news, hn⟩ := ref_adds hR (kind_slice hT hk) (ev_rel hE hy) hl hle
    refine appA_sound hT hR (ev_rel hE hx) (zs := some z) (news := news) (fun ti hz => ?_) h
    have := eqt hz
    rw [← this]
    exact hn
  · exact h.elim

/-- The operations that turn what is own. -/
def isWr : Op → Bool
  | .store _ _ _ | .mapUpdate _ _ _ _ | .next _ _ => true
  | .call c => (match c.callee with | .builtin .append => true | _ => false)
  | _ => false

/-- ALL OPERATIONS BUT THE CALLS OF FUNCTIONS. -/
theorem aop_sound (hT : TabOk P T) (hR : Rel P g nx s w) (hE : EnvRel g nx w e a.tmps) (o : Oper) (h : (aop (real tri weak) T o.op e s nx).sat K) : Does (isWr o.op) P g nx s w K (execOp a.eval o) := by
  obtain ⟨m, hm⟩ : ∃ m, isWr o.op = m := ⟨_, rfl⟩
  rw [hm]
  have pure' : (pop (real tri weak) T o.op e s).sat (fun v => K v s nx) → Does m P g nx s w K (execOp a.eval o) := fun h => by
    obtain ⟨v, y, h1, h2, h3⟩ := pop_sound hT hR hE o h
    exact ⟨v, y, g, nx, s, w, h1, Nat.le_refl _, hR, Stp.refl _ _ _ _, fun _ h => .inl h, h2, .inl (h3 w (Same.refl w)), fun _ => Same.refl w⟩
  have fin : ∀ {S : Sem Next} {m' : Bool}, isWr o.op = m' → execOp a.eval o = S → Does m' P g nx s w K S → Does m P g nx s w K (execOp a.eval o) := fun hm' he h => by rw [he, ← hm, hm']; exact h
  cases ho : o.op with
  | alloc t => rw [ho] at h; exact fin (by rw [ho]; rfl) (by unfold execOp; simp only [ho]) (alloc_sound hT hR h)
  | box t x => rw [ho] at h; exact fin (by rw [ho]; rfl) (by unfold execOp; simp only [ho]) (box_sound hR hE h)
  | store t x y => rw [ho] at h; exact fin (by rw [ho]; rfl) (by unfold execOp; simp only [ho]) (store_sound hT hR hE h)
  | buildSlice t n ps => rw [ho] at h; exact fin (by rw [ho]; rfl) (by unfold execOp; simp only [ho]) (buildSlice_sound hT hR hE h)
  | makeMap t r =>
    rw [ho] at h
    cases r with
    | none => exact fin (by rw [ho]; rfl) (by unfold execOp; simp only [ho]; rfl) (makeMap_sound hT hR h)
    | some r => exact (out_sat h).elim
  | range t x => rw [ho] at h; exact fin (by rw [ho]; rfl) (by unfold execOp; simp only [ho]) (range_sound hT hR hE h)
  | next x b =>
    rw [ho] at h
    cases b with
    | true => exact fin (by rw [ho]; rfl) (by unfold execOp; simp only [ho]) (next_sound (ty := o.type) hR hE h)
    | false => exact (out_sat h).elim
  | mapUpdate t m x y => rw [ho] at h; exact fin (by rw [ho]; rfl) (by unfold execOp; simp only [ho]) (mapUpdate_sound hT hR hE h)
  | call c =>
    by_cases hap : c.callee = .builtin .append ∧ (∃ x y, c.args.toList = [x, y]) ∧ ∃ t t2, c.argTypes.toList = [t, t2]
    · obtain ⟨hc, ⟨x, y, ha⟩, t, t2, ht⟩ := hap
      rw [ho] at h
      have e1 : c.argTypes = #[t, t2] := by rw [← Array.toArray_toList (xs := c.argTypes), ht]
      have e2 : c.args = #[x, y] := by rw [← Array.toArray_toList (xs := c.args), ha]
      refine fin (m' := true) (by rw [ho]; simp only [isWr, hc]) ?_ (append_sound (ty := o.type) hT hR hE hc ha ht h)
      unfold execOp
      simp only [ho, resolve, hc, e1, e2]
      simp [invoke, builtin]
    · refine pure' ?_
      rw [ho] at h ⊢
      have : aop (real tri weak) T (.call c) e s nx = (pop (real tri weak) T (.call c) e s).out s nx := by
        simp only [aop]
        split
        · rename_i x y t t2 hc ha ht
          exact absurd ⟨hc, ⟨x, y, ha⟩, t, t2, ht⟩ hap
        · rfl
      rw [this] at h
      exact out_sat h
  | _ => rw [ho] at h; exact pure' (by rw [ho]; exact out_sat h)
end
end Am
