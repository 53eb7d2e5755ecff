/- Plain data of plans: what a plan reads as, with no memory in sight. -/
namespace Go.Proofs.YtdiamknibfamdaaGreat

structure Place where
  node : Int
  serial : Int

structure Mark where
  producer : Int
  seq : Int
  offset : Int

structure Cursor where
  sub : Int
  at_ : Int

structure Outcome where
  code : Int
  epoch : Int
  at_ : Int
  ledger : Int
  owner : Int

structure Past where
  who : Int
  inc : Int
  n : Int
  out : Outcome

structure Spot where
  offset : Int
  ledger : Int
  n : Int

structure Frag where
  first : Int
  bookies : List Place

structure Ledger where
  id : Int
  w : Int
  a : Int
  frags : List Frag
  closed : Int
  last : Int

structure Channel where
  epoch : Int
  owner : Int
  inc : Int
  renewed : Int
  first : Int
  trim : Int
  ledgers : List Int
  seen : List Mark
  cursors : List Cursor

structure Plan where
  version : Int
  next : Int
  channels : List Channel
  ledgers : List Ledger
  past : List Past

structure Opn where
  who : Int
  inc : Int
  n : Int
  kind : Int
  channel : Int
  epoch : Int
  ledger : Int
  at_ : Int
  now : Int
  sub : Int
  w : Int
  a : Int
  frags : List Frag
  seen : List Mark
  src : Place
  dst : Place

instance : Inhabited Place := ⟨⟨0, 0⟩⟩
instance : Inhabited Mark := ⟨⟨0, 0, 0⟩⟩
instance : Inhabited Cursor := ⟨⟨0, 0⟩⟩
instance : Inhabited Outcome := ⟨⟨0, 0, 0, 0, 0⟩⟩
instance : Inhabited Past := ⟨⟨0, 0, 0, default⟩⟩
instance : Inhabited Spot := ⟨⟨0, 0, 0⟩⟩
instance : Inhabited Frag := ⟨⟨0, []⟩⟩
instance : Inhabited Ledger := ⟨⟨0, 0, 0, [], 0, 0⟩⟩
instance : Inhabited Channel := ⟨⟨0, 0, 0, 0, 0, 0, [], [], []⟩⟩
instance : Inhabited Plan := ⟨⟨0, 0, [], [], []⟩⟩
instance : Inhabited Opn := ⟨⟨0, 0, 0, 0, 0, 0, 0, 0, 0, 0, 0, 0, [], [], default, default⟩⟩

instance : DecidableEq Place := fun x y =>
  if h : x.node = y.node ∧ x.serial = y.serial then isTrue (by cases x; cases y; simp_all) else isFalse (by rintro rfl; simp at h)
instance : DecidableEq Mark := fun x y =>
  if h : x.producer = y.producer ∧ x.seq = y.seq ∧ x.offset = y.offset then isTrue (by cases x; cases y; simp_all) else isFalse (by rintro rfl; simp at h)
instance : DecidableEq Cursor := fun x y =>
  if h : x.sub = y.sub ∧ x.at_ = y.at_ then isTrue (by cases x; cases y; simp_all) else isFalse (by rintro rfl; simp at h)
instance : DecidableEq Outcome := fun x y =>
  if h : x.code = y.code ∧ x.epoch = y.epoch ∧ x.at_ = y.at_ ∧ x.ledger = y.ledger ∧ x.owner = y.owner then isTrue (by cases x; cases y; simp_all) else isFalse (by rintro rfl; simp at h)
instance : DecidableEq Past := fun x y =>
  if h : x.who = y.who ∧ x.inc = y.inc ∧ x.n = y.n ∧ x.out = y.out then isTrue (by cases x; cases y; simp_all) else isFalse (by rintro rfl; simp at h)
instance : DecidableEq Spot := fun x y =>
  if h : x.offset = y.offset ∧ x.ledger = y.ledger ∧ x.n = y.n then isTrue (by cases x; cases y; simp_all) else isFalse (by rintro rfl; simp at h)
instance : DecidableEq Frag := fun x y =>
  if h : x.first = y.first ∧ x.bookies = y.bookies then isTrue (by cases x; cases y; simp_all) else isFalse (by rintro rfl; simp at h)
instance : DecidableEq Ledger := fun x y =>
  if h : x.id = y.id ∧ x.w = y.w ∧ x.a = y.a ∧ x.frags = y.frags ∧ x.closed = y.closed ∧ x.last = y.last then isTrue (by cases x; cases y; simp_all) else isFalse (by rintro rfl; simp at h)
instance : DecidableEq Channel := fun x y =>
  if h : x.epoch = y.epoch ∧ x.owner = y.owner ∧ x.inc = y.inc ∧ x.renewed = y.renewed ∧ x.first = y.first ∧ x.trim = y.trim ∧ x.ledgers = y.ledgers ∧ x.seen = y.seen ∧ x.cursors = y.cursors then isTrue (by cases x; cases y; simp_all) else isFalse (by rintro rfl; simp at h)
instance : DecidableEq Plan := fun x y =>
  if h : x.version = y.version ∧ x.next = y.next ∧ x.channels = y.channels ∧ x.ledgers = y.ledgers ∧ x.past = y.past then isTrue (by cases x; cases y; simp_all) else isFalse (by rintro rfl; simp at h)
instance : DecidableEq Opn := fun x y =>
  if h : x.who = y.who ∧ x.inc = y.inc ∧ x.n = y.n ∧ x.kind = y.kind ∧ x.channel = y.channel ∧ x.epoch = y.epoch ∧ x.ledger = y.ledger ∧ x.at_ = y.at_ ∧ x.now = y.now ∧ x.sub = y.sub ∧ x.w = y.w ∧ x.a = y.a ∧ x.frags = y.frags ∧ x.seen = y.seen ∧ x.src = y.src ∧ x.dst = y.dst then
    isTrue (by cases x; cases y; simp_all) else isFalse (by rintro rfl; simp at h)

/-- Numbers that fit. -/
def U64 (x : Int) : Prop := 0 ≤ x ∧ x < 18446744073709551616
def I64 (x : Int) : Prop := -9223372036854775808 ≤ x ∧ x ≤ 9223372036854775807

/-- Adjacent elements rise. -/
def riseB : List Int → Bool
  | a :: b :: t => decide (a < b) && riseB (b :: t)
  | _ => true

end Go.Proofs.YtdiamknibfamdaaGreat
