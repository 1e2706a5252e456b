/- What the law Reads is closed by. -/
import Derived.Test.YtflkafnhhadphaaDoorChecked
import Derived.Test.YtflkafnhhadphaaDoorReadW
import Derived.Test.YtflkafnhhadphaaDoorNums
